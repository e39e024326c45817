/- Part of a proof: several parts of a walk, one behind the other. -/
import Derived.Test.YtkcabddbeclokaaGreatCVR
import Derived.Test.YtkcabddbeclokaaGreatCVJ
import Derived.Test.YtkcabddbeclokaaGreatCKB
namespace Go.Sx
open Go Go.Proofs
set_option maxRecDepth 10000
variable {w0 : World} {H : List Ck}
/-! ### Woven -/
theorem filt_get {p : MD → Bool} {l : List MD} {n : Nat} {x : MD} (h : l[n]? = some x) (hx : p x = true) : (l.filter p)[((l.take n).filter p).length]? = some x := by
  have hl := (List.getElem?_eq_some_iff.1 h).1
  have e : l = l.take n ++ x :: l.drop (n + 1) := by
    rw [← dropC h, List.take_append_drop]
  conv => lhs; rw [e]
  rw [List.filter_append, List.getElem?_append_right (by
    rw [List.take_append_of_le_length (by rw [List.length_take]; omega), List.take_take, Nat.min_self]
    exact Nat.le_refl _), List.take_append_of_le_length (by rw [List.length_take]; omega), List.take_take, Nat.min_self, Nat.sub_self, List.filter_cons, if_pos hx]
  rfl
theorem filt_snoc {p : MD → Bool} {l : List MD} {n : Nat} {x : MD} (h : l[n]? = some x) : ((l.take (n + 1)).filter p).length = ((l.take n).filter p).length + (if p x = true then 1 else 0) := by
  rw [snocT h, List.filter_append, List.length_append, List.filter_cons]
  split <;> simp
theorem filt_le {p : MD → Bool} {l : List MD} {n : Nat} : ((l.take n).filter p).length ≤ (l.filter p).length := by
  conv => rhs; rw [← List.take_append_drop n l, List.filter_append, List.length_append]
  omega
theorem RMs.at1 {a : Option Addr} {c i : Nat} {ms : List Mg} {m : Mg} (h : RMs w0 H a c ms) (hm : ms[i]? = some m) : RMs w0 H (Sx.sl a c i 5) (c - i) [m] := by
  have hi := (List.getElem?_eq_some_iff.1 hm).1
  have := h.part (i := i) (j := i + 1) (by omega) (by omega)
  rwa [Nat.add_sub_cancel_left, part_one hm] at this
end Go.Sx
namespace Go.Sx
open Go Go.Proofs
set_option maxRecDepth 10000
variable {w0 : World} {H : List Ck}
theorem rcopy7_s {m : Mg} (hm : RMg w0 H m) (h1 : m.lo.length ≤ 140737488355328) (h2 : m.hi.length ≤ 140737488355328) (h3 : m.v.length ≤ 140737488355328) : FnS Tryz.prog w0 H 93 #[.agg m.cells.toArray] (fun v H' => ∃ m' : Mg, v = .agg m'.cells.toArray ∧ m'.d = m.d ∧ H' = oM m' ++ H) := by
  refine fns_enter Tryz.func93 rfl rfl rfl ?_
  have hlo := hm.lo
  have hhi := hm.hi
  have hv := hm.v
  refine sx ?_
  refine s_boxA rfl fun b1 => ?_
  refine sx ?_
  refine s_alloc fun b2 => ?_
  refine sx ?_
  refine s_call rfl (qcopy_s (xs := m.lo) (by exact rby) h1) ?_
  rintro _ _ ⟨la, rfl, rfl⟩
  refine ⟨chk_seq, ?_⟩
  refine sx ?_
  refine s_call rfl (qcopy_s (xs := m.hi) (by exact rby) h2) ?_
  rintro _ _ ⟨ha, rfl, rfl⟩
  refine ⟨chk_seq, ?_⟩
  refine sx ?_
  refine s_call rfl (qcopy_s (xs := m.v) (by exact rby) h3) ?_
  rintro _ _ ⟨va, rfl, rfl⟩
  refine ⟨chk_seq, ?_⟩
  refine sx ?_
  exact s_retc rfl rfl (by exact at_) rfl ⟨⟨m.st, m.kd, la, m.lo.length, m.lo, ha, m.hi.length, m.hi, va, m.v.length, m.v⟩, rfl, rfl, rfl⟩ (by exact ent)
/-- For the children from i up to k. -/
def forP (ks : List Bs) (i k : Int) (m : MD) : Bool := decide (i ≤ ((chl ks m.lo : Nat) : Int)) && decide (((chl ks m.lo : Nat) : Int) < k)
structure FrJ where
  i : Nat
  ia : Option Addr
  ic : Nat
  is : List Mg
  oa : Option Addr
  oc : Nat
  os : List Mg
set_option maxHeartbeats 2000000 in
theorem rfor_s {n : Nd} {i k : Int} (hn : RNd w0 H n) (h3 : sumM n.md ≤ 549755813888) : FnS Tryz.prog w0 H 79 #[.agg n.cells.toArray, .int .i64 i, .int .i64 k] (fun v H' => ∃ (ia : Option Addr) (ic : Nat) (is : List Mg) (oa : Option Addr) (oc : Nat) (os : List Mg), v = .tuple #[.slice ia is.length ic, .slice oa os.length oc] ∧ H' = ol 56 ia ic is :: ol 56 oa oc os :: stars oM is :: stars oM os :: H ∧ is.map Mg.d = n.md.filter (forP n.k.keys i k) ∧ os.map Mg.d = n.md.filter fun m => !forP n.k.keys i k m) := by
  refine fns_enter Tryz.func79 rfl rfl rfl ?_
  have hk := hn.k
  have hms := hn.ms.sl
  refine s_kn (Kn.sl hms) fun l1 => ?_
  simp only [maxLen] at l1
  have hnl := sumM_len n.md
  rw [show n.md.length = n.ms.length from List.length_map _] at hnl
  refine sx ?_
  refine s_boxA rfl fun b3 => ?_
  refine sx ?_
  refine s_loop (fun q : FrJ => [(1, .int .i64 i), (2, .int .i64 k), (3, .pointer (some ⟨b3, 0, none⟩)), (8, .slice q.ia q.is.length q.ic), (9, .slice q.oa q.os.length q.oc), (10, .int .i64 q.i)]) (fun q => ol 56 q.ia q.ic q.is :: ol 56 q.oa q.oc q.os :: stars oM q.is :: stars oM q.os :: .hb b3 28 n.cells :: H) (fun q => q.i ≤ n.ms.length ∧ q.is.length + q.os.length = q.i ∧ q.is.map Mg.d = (n.md.take q.i).filter (forP n.k.keys i k) ∧ q.os.map Mg.d = (n.md.take q.i).filter fun m => !forP n.k.keys i k m) (fun q => n.ms.length - q.i) ⟨0, none, 0, [], none, 0, []⟩ ⟨Nat.zero_le _, rfl, rfl, rfl⟩ ?_ (he := Ent.nilS.trans (Ent.head (Ent.nilS.trans (Ent.head (stars_nil.trans (Ent.head (stars_nil.trans (Ent.head Ent.refl))))))))
  rintro ⟨j, ia, ic, is, oa, oc, os⟩ ⟨hj, hlen, his, hos⟩
  simp only at hj hlen his hos ⊢
  refine sx ?_
  refine s_if rfl (fun t1 => ?_) (fun t1 => ?_)
  · obtain ⟨m, hm⟩ := get_lt n.ms j (by omega)
    have hrm := hn.ms.el m (List.mem_of_getElem? hm)
    have hrl := hrm.lo
    have hmd := get_map (f := Mg.d) hm
    have h6 : sumM (n.md.take (j + 1)) = sumM (n.md.take j) + lenM m.d := sumM_get hmd
    have h7 := sumM_take n.md (j + 1)
    have h8 : lenM m.d = 13 + m.lo.length + m.hi.length + m.v.length := rfl
    refine sx ?_
    refine s_drU (.hb b3 28 n.cells :: H) (.one true 0 (.one true 1 (.one true 2 (.one true 3 (.one true 4 (.one true 5 (.one true 6 (.one true 7 .nil)))))))) (.one false 8 (.one true 9 .nil)) [8] #[true, true, true, true, true, true, true, true, false, false] mixed (by kernel_rfl) ?_
    refine sx ?_
    refine s_bar ?_
    refine sx ?_
    refine s_callV rfl (rchild_s (k := n.k) (key := m.lo) (by exact rkd) (by exact rby)) ?_
    have hch := chl_le n.k.keys m.lo
    generalize hc : chl n.k.keys m.lo = c at hch
    refine sx ?_
    apply s_joinU (X := forP n.k.keys i k m.d = false → _)
    · intro key
      refine s_lif rfl (fun t2 => ?_) (fun t2 => ?_)
      · refine sx ?_
        refine s_if rfl (fun t3 => ?_) (fun t3 => ?_)
        · have hp : forP n.k.keys i k m.d = true := by simp only [forP, hc, Bool.and_eq_true, decide_eq_true_eq]; omega
          refine sx ?_
          refine s_call rfl (rcopy7_s (m := m) (by exact rmg) (by omega) (by omega) (by omega)) ?_
          rintro _ _ ⟨m', rfl, hm', rfl⟩
          refine ⟨chk_seq, ?_⟩
          refine sx ?_
          refine s_bsl [m'] rfl rfl fun b66 => ?_
          refine sx ?_
          refine s_app (xs := is) ?_ (hby := by simp only [List.length_cons, List.length_nil]; omega)
          intro a4 c4
          refine sx ?_
          refine s_again ⟨j + 1, a4, c4, is ++ [m'], oa, oc, os⟩ ⟨by simp only; omega, by simp only [List.length_append, List.length_cons, List.length_nil]; omega, ?_, ?_⟩ (by simp only; omega) (he := ?_)
          · simp only [List.map_append]
            rw [his, snocT hmd, List.filter_append]
            simp [hp, hm']
          · simp only
            rw [hos, snocT hmd, List.filter_append]
            simp [hp]
          · refine Ent.cons (by exact rm) (Ent.cons (by exact rm) ?_)
            exact Ent.trans (H' := ob m'.la m'.lc m'.lo :: ob m'.ha m'.hc m'.hi :: ob m'.va m'.vc m'.v :: stars oM is :: stars oM os :: .hb b3 28 n.cells :: H) (by first | exact entq | exact ent) (stars_snoc (f := oM) (s := m'))
        · have stp : StopAt 9 := trivial
          refine sxs ?_
          refine s_sub (l' := [(1, .int .i64 i), (2, .int .i64 k), (3, .pointer (some ⟨b3, 0, none⟩)), (8, .slice ia is.length ic), (9, .slice oa os.length oc), (10, .int .i64 j)]) ?_ (by repeat (first | exact trivial | refine And.intro (by first | exact rfl | exact congrArg some (ci (by omega))) ?_))
          exact key.out (by simp only [forP, hc, Bool.and_eq_false_iff, decide_eq_false_iff_not]; omega)
      · have stp : StopAt 9 := trivial
        refine sxs ?_
        refine s_sub (l' := [(1, .int .i64 i), (2, .int .i64 k), (3, .pointer (some ⟨b3, 0, none⟩)), (8, .slice ia is.length ic), (9, .slice oa os.length oc), (10, .int .i64 j)]) ?_ (by repeat (first | exact trivial | refine And.intro (by first | exact rfl | exact congrArg some (ci (by omega))) ?_))
        exact key.out (by simp only [forP, hc, Bool.and_eq_false_iff, decide_eq_false_iff_not]; omega)
    · intro hp
      refine sx ?_
      refine s_call rfl (rcopy7_s (m := m) (by exact rmg) (by omega) (by omega) (by omega)) ?_
      rintro _ _ ⟨m', rfl, hm', rfl⟩
      refine ⟨chk_seq, ?_⟩
      refine sx ?_
      refine s_bsl [m'] rfl rfl fun b66 => ?_
      refine sx ?_
      refine s_app (xs := os) ?_ (hby := by simp only [List.length_cons, List.length_nil]; omega)
      intro a4 c4
      refine sx ?_
      refine s_again ⟨j + 1, ia, ic, is, a4, c4, os ++ [m']⟩ ⟨by simp only; omega, by simp only [List.length_append, List.length_cons, List.length_nil]; omega, ?_, ?_⟩ (by simp only; omega) (he := ?_)
      · simp only
        rw [his, snocT hmd, List.filter_append]
        simp [hp]
      · simp only [List.map_append]
        rw [hos, snocT hmd, List.filter_append]
        simp [hp, hm']
      · refine Ent.cons (by exact rm) (Ent.cons (by exact rm) (Ent.cons (by exact rm) ?_))
        exact Ent.trans (H' := ob m'.la m'.lc m'.lo :: ob m'.ha m'.hc m'.hi :: ob m'.va m'.vc m'.v :: stars oM os :: .hb b3 28 n.cells :: H) (by first | exact entq | exact ent) (stars_snoc (f := oM) (s := m'))
  · obtain rfl : j = n.ms.length := by omega
    have hT : n.md.take n.ms.length = n.md := List.take_of_length_le (by simp)
    rw [hT] at his hos
    refine sx ?_
    exact s_ret2 rfl rfl rfl ⟨ia, ic, is, oa, oc, os, rfl, rfl, his, hos⟩ (by exact ent)
theorem forP_one {ks : List Bs} {i : Int} {l : List MD} : l.filter (forP ks i (i + 1)) = forM ks i l ∧ (l.filter fun m => !forP ks i (i + 1) m) = othM ks i l := by
  have h : ∀ m : MD, forP ks i (i + 1) m = decide (((chl ks m.lo : Nat) : Int) = i) := fun m => by
    rw [forP, Bool.eq_iff_iff]
    simp only [Bool.and_eq_true, decide_eq_true_eq]
    omega
  exact ⟨List.filter_congr fun m _ => h m, List.filter_congr fun m _ => by rw [h m]⟩
end Go.Sx
