/- Weights; are messages those of two lists? By the program. -/
import Derived.Test.YtkcabddbeclokaaCVR
import Derived.Test.YtkcabddbeclokaaCVJ
import Derived.Test.YtkcabddbeclokaaCKB
namespace Go.Sx
open Go Go.Proofs
set_option maxRecDepth 10000
variable {w0 : World} {H : List Ck}
set_option maxHeartbeats 1000000 in
theorem nweights_s {n : Nd} (hn : RNd w0 H n) (h1 : n.k.ps.length ≤ 4294967296) (h3 : sumM n.md ≤ 549755813888) : FnS Try.prog w0 H 29 #[.agg n.cells.toArray] (fun v H' => ∃ a c, v = .slice a (wtL n.k.ps.length n.k.keys n.md).length c ∧ H' = ol 3 a c (wtL n.k.ps.length n.k.keys n.md) :: H) := by
  refine fns_enter Try.func29 rfl rfl rfl ?_
  have hms := hn.ms.sl
  have hps := hn.k.ps
  refine s_kn (Kn.sl hms) fun l1 => ?_
  simp only [maxLen] at l1
  refine sx ?_
  refine s_boxA rfl fun b1 => ?_
  refine sx ?_
  refine s_rw (t := 9) (v' := .pointer (some ((⟨b1, 0, none⟩ : Addr).add 0))) rfl rfl ?_
  refine sx ?_
  refine s_make rfl rfl (by omega) fun b => ?_
  refine sx ?_
  refine s_callV rfl (whole_s (n := n)) ?_
  refine sx ?_
  refine s_alloc fun b4 => ?_
  refine sx ?_
  have hW := fun (i : Nat) => wtL_len n.k.ps.length n.k.keys (n.md.take i)
  refine s_loop (fun i : Nat => [(3, .slice (some b) (wtL n.k.ps.length n.k.keys (n.md.take i)).length n.k.ps.length), (4, .pointer (some ⟨b4, 0, none⟩)), (16, .slice n.ma n.ms.length n.mc), (17, .int .i64 n.ms.length), (18, .int .i64 i)]) (fun i => ol 3 (some b) n.k.ps.length (wtL n.k.ps.length n.k.keys (n.md.take i)) :: .hb b4 97 n.cells :: H) (fun i => i ≤ n.ms.length) (fun i => n.ms.length - i) 0 (Nat.zero_le _) ?_ (h0 := by rw [List.take_zero, wtL_nil, List.length_replicate]; repeat (first | exact trivial | refine And.intro (by first | exact rfl | exact congrArg some (ci (by omega))) ?_)) (he := by rw [List.take_zero, wtL_nil]; exact Ent.cons (by exact rm) (by exact ent))
  intro i hi
  refine sx ?_
  refine s_if rfl (fun t1 => ?_) (fun t1 => ?_)
  · obtain ⟨m, hm⟩ := get_lt n.ms i (by omega)
    have hmd := get_map (f := Mg.d) hm
    have hrm := hn.ms.el m (List.mem_of_getElem? hm)
    have hsn : n.md.take (i + 1) = n.md.take i ++ [m.d] := snocT hmd
    have h6 : sumM (n.md.take (i + 1)) = sumM (n.md.take i) + lenM m.d := sumM_get hmd
    have h7 := sumM_take n.md (i + 1)
    have h8 := sumM_filter (n.md.take i) (fun x => decide (chl n.k.keys x.lo = chl n.k.keys m.lo))
    refine sx ?_
    refine s_alloc fun b6 => ?_
    refine sx ?_
    refine s_callV rfl (whose_s (n := n) (m := m) (by exact rnd) (by exact rmg)) ?_
    refine sx ?_
    refine s_if rfl (fun t2 => ?_) (fun t2 => ?_)
    · have t2' : chl n.k.keys m.lo < n.k.ps.length := by rw [hW] at t2; omega
      have hg := wtL_get (ks := n.k.keys) (l := n.md.take i) t2'
      have hst := wtL_snoc (m := m.d) hg
      rw [← hsn] at hst
      generalize hw : ((sumM ((n.md.take i).filter fun x => decide (chl n.k.keys x.lo = chl n.k.keys m.lo)) : Nat) : Int) = w at hg hst
      have hl : chl n.k.keys m.lo < (wtL n.k.ps.length n.k.keys (n.md.take i)).length := by rw [hW]; exact t2'
      generalize wtL n.k.ps.length n.k.keys (n.md.take i) = W at hg hst hl ⊢
      have hml : lenM m.d = 13 + m.lo.length + m.hi.length + m.v.length := rfl
      refine sx ?_
      refine s_drU (ol 3 (some b) n.k.ps.length W :: .hb b6 78 m.cells :: .hb b4 97 n.cells :: H) (.one true 0 (.one true 1 (.one true 2 (.one true 3 (.one true 4 (.one false 5 (.one false 6 (.one false 7 (.one true 8 (.one true 9 (.one true 10 .nil))))))))))) (.one false 11 .nil) [11] #[true, true, true, true, true, true, true, true, true, true, true, false] mixed (by kernel_rfl) ?_
      refine sx ?_
      refine s_bsl [m] rfl rfl fun b34 => ?_
      have e1 : sumM (List.map Mg.d [m]) = lenM m.d := by simp [sumM]
      refine s_callV rfl (mbytes_s (ms := [m]) (by exact rsl) (by rw [e1]; omega)) ?_
      refine sx ?_
      refine s_callV rfl (mbytes_s (ms := []) (a := none) (c := 0) RSl.nil (by decide)) ?_
      have e2 : bytesM (List.map Mg.d [m]) = 4 + lenM m.d := by rw [bytesM, e1]
      have e3 : bytesM (List.map Mg.d ([] : List Mg)) = 4 := rfl
      rw [e2, e3]
      refine sx ?_
      refine s_bar ?_
      refine s_rw (t := 38) (v' := .int .i64 (w + lenM m.d)) rfl (ci (by omega)) ?_
      refine sx ?_
      refine s_set1g (y := w + lenM m.d) (i := chl n.k.keys m.lo) rfl rfl (by exact at_) rfl (by omega) ?_
      have e0 : chl n.k.keys m.d.lo = chl n.k.keys m.lo := rfl
      rw [e0] at hst
      have hl2 : (W.set (chl n.k.keys m.lo) (w + lenM m.d)).length = W.length := List.length_set
      rw [← hst] at hl2 ⊢
      rw [← hl2]
      refine sx ?_
      exact s_again (i + 1) (by omega) (by omega)
    · have hst := wtL_over (l := n.md.take i) (m := m.d) (k := n.k.ps.length) (ks := n.k.keys) (by have e0 : chl n.k.keys m.d.lo = chl n.k.keys m.lo := rfl; rw [e0]; rw [hW] at t2; omega)
      rw [← hsn] at hst
      rw [← hst]
      refine sx ?_
      exact s_again (i + 1) (by omega) (by omega)
  · obtain rfl : i = n.ms.length := by omega
    rw [List.take_of_length_le (show n.md.length ≤ n.ms.length by simp)]
    refine sx ?_
    exact s_ret1 rfl rfl ⟨some b, n.k.ps.length, rfl, rfl⟩
/-! ### Woven -/
theorem filt_get {p : MD → Bool} {l : List MD} {n : Nat} {x : MD} (h : l[n]? = some x) (hx : p x = true) : (l.filter p)[((l.take n).filter p).length]? = some x := by
  have hl := (List.getElem?_eq_some_iff.1 h).1
  have e : l = l.take n ++ x :: l.drop (n + 1) := by
    rw [← dropC h, List.take_append_drop]
  conv => lhs; rw [e]
  rw [List.filter_append, List.getElem?_append_right (by
    rw [List.take_append_of_le_length (by rw [List.length_take]; omega), List.take_take, Nat.min_self]
    exact Nat.le_refl _), List.take_append_of_le_length (by rw [List.length_take]; omega), List.take_take, Nat.min_self, Nat.sub_self, List.filter_cons, if_pos hx]
  rfl
theorem filt_snoc {p : MD → Bool} {l : List MD} {n : Nat} {x : MD} (h : l[n]? = some x) : ((l.take (n + 1)).filter p).length = ((l.take n).filter p).length + (if p x = true then 1 else 0) := by
  rw [snocT h, List.filter_append, List.length_append, List.filter_cons]
  split <;> simp
theorem filt_le {p : MD → Bool} {l : List MD} {n : Nat} : ((l.take n).filter p).length ≤ (l.filter p).length := by
  conv => rhs; rw [← List.take_append_drop n l, List.filter_append, List.length_append]
  omega
theorem RMs.at1 {a : Option Addr} {c i : Nat} {ms : List Mg} {m : Mg} (h : RMs w0 H a c ms) (hm : ms[i]? = some m) : RMs w0 H (Sx.sl a c i 5) (c - i) [m] := by
  have hi := (List.getElem?_eq_some_iff.1 hm).1
  have := h.part (i := i) (j := i + 1) (by omega) (by omega)
  rwa [Nat.add_sub_cancel_left, part_one hm] at this
set_option maxHeartbeats 1000000 in
theorem woven_s {a a1 a2 : Option Addr} {c c1 c2 : Nat} {l q r : List Mg} {p : MD → Bool} (hl : RMs w0 H a c l) (hq : RMs w0 H a1 c1 q) (hr : RMs w0 H a2 c2 r) (e1 : q.map Mg.d = (l.map Mg.d).filter fun m => !p m) (e2 : r.map Mg.d = (l.map Mg.d).filter p) : FnV Try.prog w0 H 36 #[.slice a l.length c, .slice a1 q.length c1, .slice a2 r.length c2] (.bool true) := by
  refine fns_enter Try.func36 rfl rfl rfl ?_
  have hls := hl.sl
  have hqs := hq.sl
  have hrs := hr.sl
  refine s_kn (Kn.sl hls) fun l1 => s_kn (Kn.sl hqs) fun l2 => s_kn (Kn.sl hrs) fun l3 => ?_
  simp only [maxLen] at l1 l2 l3
  have hql : q.length = ((l.map Mg.d).filter fun m => !p m).length := by rw [← e1, List.length_map]
  have hrl : r.length = ((l.map Mg.d).filter p).length := by rw [← e2, List.length_map]
  refine sx ?_
  refine s_loop (fun n : Nat => [(0, .slice a l.length c), (1, .slice a1 q.length c1), (2, .slice a2 r.length c2), (7, .int .i64 ((((l.map Mg.d).take n).filter fun m => !p m).length : Nat)), (8, .int .i64 ((((l.map Mg.d).take n).filter p).length : Nat)), (9, .int .i64 n)]) (fun _ => H) (fun n => n ≤ l.length) (fun n => l.length - n) 0 (Nat.zero_le _) ?_
  intro n hn
  refine sx ?_
  refine s_if rfl (fun t1 => ?_) (fun t1 => ?_)
  · obtain ⟨m, hm⟩ := get_lt l n (by omega)
    have hmd := get_map (f := Mg.d) hm
    have s1 := filt_snoc (p := fun m => !p m) hmd
    have s2 := filt_snoc (p := p) hmd
    have b1 := filt_le (p := fun m => !p m) (l := l.map Mg.d) (n := n + 1)
    have b2 := filt_le (p := p) (l := l.map Mg.d) (n := n + 1)
    have f1 := filt_get (p := fun m => !p m) hmd
    have f2 := filt_get (p := p) hmd
    rw [← e1] at f1
    rw [← e2] at f2
    generalize hI : (((l.map Mg.d).take n).filter fun m => !p m).length = I at s1 f1 ⊢
    generalize hK : (((l.map Mg.d).take n).filter p).length = K at s2 f2 ⊢
    have hrp : ∀ y : Mg, r[K]? = some y → p y.d = true := fun y hy => by
      have h1 := get_map (f := Mg.d) hy
      rw [e2] at h1
      exact (List.mem_filter.1 (List.mem_of_getElem? h1)).2
    have ha1 := hl.at1 hm
    by_cases hp : p m.d = true
    · obtain ⟨y, hy, hyd⟩ : ∃ y, r[K]? = some y ∧ y.d = m.d := by
        rw [List.getElem?_map] at f2
        have := f2 hp
        obtain ⟨y, h1, h2⟩ := Option.map_eq_some_iff.1 this
        exact ⟨y, h1, h2⟩
      have hyl := (List.getElem?_eq_some_iff.1 hy).1
      have ha2 := hr.at1 hy
      rw [if_neg (by simp [hp])] at s1
      rw [if_pos hp] at s2
      refine sx ?_
      refine s_if rfl (fun t2 => ?_) (fun t2 => by exfalso; omega)
      refine sx ?_; refine s_dr (.one true 0 (.one true 1 (.one true 2 (.one true 3 (.one true 4 (.one true 5 (.one true 6 (.one true 7 (.one true 8 (.one true 9 (.one false 10 (.one true 11 .nil)))))))))))) mixed (by kernel_rfl) ?_; refine sx ?_
      refine s_rw (t := 25) (v' := .int .i64 ((n + 1 : Nat) : Int)) rfl (ci (by omega)) ?_
      refine sx ?_
      refine s_rw (t := 26) (v' := .slice (Sx.sl a c n 5) ([m] : List Mg).length (c - n)) rfl (by rw [Nat.add_sub_cancel_left]; rfl) ?_
      refine sx ?_
      refine s_rw (t := 30) (v' := .int .i64 ((K + 1 : Nat) : Int)) rfl (ci (by omega)) ?_
      refine sx ?_
      refine s_rw (t := 31) (v' := .slice (Sx.sl a2 c2 K 5) ([y] : List Mg).length (c2 - K)) rfl (by rw [Nat.add_sub_cancel_left]; rfl) ?_
      refine s_callV rfl (nsameM_s (xs := [m]) (ys := [y]) (by exact rms) (by exact rms)) ?_
      rw [decide_eq_true (show List.map Mg.d [m] = List.map Mg.d [y] by show [m.d] = [y.d]; rw [hyd])]
      refine sx ?_
      exact s_again (n + 1) (by omega) (by omega)
    · obtain ⟨z, hz, hzd⟩ : ∃ z, q[I]? = some z ∧ z.d = m.d := by
        rw [List.getElem?_map] at f1
        have := f1 (by simpa using hp)
        obtain ⟨y, h1, h2⟩ := Option.map_eq_some_iff.1 this
        exact ⟨y, h1, h2⟩
      have hzl := (List.getElem?_eq_some_iff.1 hz).1
      have ha2 := hq.at1 hz
      rw [if_pos (by simpa using hp)] at s1
      rw [if_neg hp] at s2
      apply s_joinU
      · intro key
        refine sx ?_
        have stp : StopAt 10 := trivial
        refine s_if rfl (fun t2 => ?_) (fun t2 => ?_)
        · obtain ⟨y, hy⟩ := get_lt r K (by omega)
          have hyp := hrp y hy
          have hyl := (List.getElem?_eq_some_iff.1 hy).1
          have ha3 := hr.at1 hy
          clear stp
          refine sx ?_; refine s_dr (.one true 0 (.one true 1 (.one true 2 (.one true 3 (.one true 4 (.one true 5 (.one true 6 (.one true 7 (.one true 8 (.one true 9 (.one false 10 (.one true 11 .nil)))))))))))) mixed (by kernel_rfl) ?_; refine sx ?_
          refine s_rw (t := 25) (v' := .int .i64 ((n + 1 : Nat) : Int)) rfl (ci (by omega)) ?_
          refine sx ?_
          refine s_rw (t := 26) (v' := .slice (Sx.sl a c n 5) ([m] : List Mg).length (c - n)) rfl (by rw [Nat.add_sub_cancel_left]; rfl) ?_
          refine sx ?_
          refine s_rw (t := 30) (v' := .int .i64 ((K + 1 : Nat) : Int)) rfl (ci (by omega)) ?_
          refine sx ?_
          refine s_rw (t := 31) (v' := .slice (Sx.sl a2 c2 K 5) ([y] : List Mg).length (c2 - K)) rfl (by rw [Nat.add_sub_cancel_left]; rfl) ?_
          refine s_callV rfl (nsameM_s (xs := [m]) (ys := [y]) (by exact rms) (by exact rms)) ?_
          rw [decide_eq_false (show ¬ List.map Mg.d [m] = List.map Mg.d [y] from fun e => hp (by have : m.d = y.d := List.singleton_inj.1 e; rw [this]; exact hyp))]
          have stp : StopAt 10 := trivial
          refine sxs ?_
          refine s_sub (l' := [(0, .slice a l.length c), (1, .slice a1 q.length c1), (2, .slice a2 r.length c2), (7, .int .i64 (I : Int)), (8, .int .i64 (K : Int)), (9, .int .i64 (n : Int))]) ?_ (by repeat (first | exact trivial | refine And.intro (by first | exact rfl | exact congrArg some (ci (by omega))) ?_))
          exact key.out
        · refine sxs ?_
          refine s_sub (l' := [(0, .slice a l.length c), (1, .slice a1 q.length c1), (2, .slice a2 r.length c2), (7, .int .i64 (I : Int)), (8, .int .i64 (K : Int)), (9, .int .i64 (n : Int))]) ?_ (by repeat (first | exact trivial | refine And.intro (by first | exact rfl | exact congrArg some (ci (by omega))) ?_))
          exact key.out
      refine sx ?_
      refine s_if rfl (fun t3 => by exfalso; omega) (fun t3 => ?_)
      refine sx ?_; refine s_dr (.one true 0 (.one true 1 (.one true 2 (.one true 3 (.one true 4 (.one true 5 (.one true 6 (.one true 7 (.one true 8 (.one true 9 (.one false 10 (.one true 11 .nil)))))))))))) mixed (by kernel_rfl) ?_; refine sx ?_
      refine s_rw (t := 43) (v' := .int .i64 ((n + 1 : Nat) : Int)) rfl (ci (by omega)) ?_
      refine sx ?_
      refine s_rw (t := 44) (v' := .slice (Sx.sl a c n 5) ([m] : List Mg).length (c - n)) rfl (by rw [Nat.add_sub_cancel_left]; rfl) ?_
      refine sx ?_
      refine s_rw (t := 48) (v' := .int .i64 ((I + 1 : Nat) : Int)) rfl (ci (by omega)) ?_
      refine sx ?_
      refine s_rw (t := 49) (v' := .slice (Sx.sl a1 c1 I 5) ([z] : List Mg).length (c1 - I)) rfl (by rw [Nat.add_sub_cancel_left]; rfl) ?_
      refine s_callV rfl (nsameM_s (xs := [m]) (ys := [z]) (by exact rms) (by exact rms)) ?_
      rw [decide_eq_true (show List.map Mg.d [m] = List.map Mg.d [z] by show [m.d] = [z.d]; rw [hzd])]
      refine sx ?_
      exact s_again (n + 1) (by omega) (by omega)
  · obtain rfl : n = l.length := by omega
    rw [List.take_of_length_le (show (l.map Mg.d).length ≤ l.length by simp), ← hql, ← hrl]
    refine sx ?_
    exact s_ret1 rfl rfl ⟨rfl, rfl⟩
end Go.Sx
