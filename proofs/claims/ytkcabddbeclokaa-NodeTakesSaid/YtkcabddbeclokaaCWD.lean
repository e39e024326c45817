/- Copies of messages and children, messages for children and the others, what is taken, weights: by the document. -/
import Derived.Test.YtkcabddbeclokaaCVS
namespace Go.Sx
open Go Go.Proofs
set_option maxRecDepth 10000
variable {w0 : World} {H : List Ck}
theorem rcopy7_s {m : Mg} (hm : RMg w0 H m) (h1 : m.lo.length ≤ 140737488355328) (h2 : m.hi.length ≤ 140737488355328) (h3 : m.v.length ≤ 140737488355328) : FnS Try.prog w0 H 123 #[.agg m.cells.toArray] (fun v H' => ∃ m' : Mg, v = .agg m'.cells.toArray ∧ m'.d = m.d ∧ H' = oM m' ++ H) := by
  refine fns_enter Try.func123 rfl rfl rfl ?_
  have hlo := hm.lo
  have hhi := hm.hi
  have hv := hm.v
  refine sx ?_
  refine s_boxA rfl fun b1 => ?_
  refine sx ?_
  refine s_alloc fun b2 => ?_
  refine sx ?_
  refine s_call rfl (qcopy_s (xs := m.lo) (by exact rby) h1) ?_
  rintro _ _ ⟨la, rfl, rfl⟩
  refine ⟨chk_seq, ?_⟩
  refine sx ?_
  refine s_call rfl (qcopy_s (xs := m.hi) (by exact rby) h2) ?_
  rintro _ _ ⟨ha, rfl, rfl⟩
  refine ⟨chk_seq, ?_⟩
  refine sx ?_
  refine s_call rfl (qcopy_s (xs := m.v) (by exact rby) h3) ?_
  rintro _ _ ⟨va, rfl, rfl⟩
  refine ⟨chk_seq, ?_⟩
  refine sx ?_
  exact s_retc rfl rfl (by exact at_) rfl ⟨⟨m.st, m.kd, la, m.lo.length, m.lo, ha, m.hi.length, m.hi, va, m.v.length, m.v⟩, rfl, rfl, rfl⟩ (by exact ent)
theorem rcopyK_s {k : Kd} (hk : RKd w0 H k) (h1 : k.ps.length ≤ 4294967296) (h2 : keysB k.keys ≤ 1099511627776) : FnS Try.prog w0 H 103 #[.agg k.cells.toArray] (fun v H' => ∃ k' : Kd, v = .agg k'.cells.toArray ∧ k'.d = k.d ∧ H' = oK k' :: H) := by
  refine fns_enter Try.func103 rfl rfl rfl ?_
  have hps := hk.ps
  have hks := hk.ks
  refine sx ?_
  refine s_boxA rfl fun b1 => ?_
  refine sx ?_
  refine s_alloc fun b2 => ?_
  refine sx ?_
  refine s_drU (.hb b1 36 k.cells :: H) (.one true 1 (.one true 2 (.one true 4 (.one true 5 (.one false 0 (.one false 3 (.one false 6 (.one true 7 .nil)))))))) (.one false 8 .nil) [8] #[true, true, true, true, true, true, true, true, false] mixed (by kernel_rfl) ?_
  refine sx ?_
  refine s_bsl ([] : List Int) rfl rfl fun b3 => ?_
  refine sx ?_
  refine s_app (ys := k.ps) ?_ (hby := by simp only [List.length_nil]; omega)
  intro pa pc
  rw [List.nil_append]
  refine sx ?_
  refine s_call rfl (copies_s (ps := k.ks) (by exact rsl) (fun p hp => (hk.el p hp).ent (by exact ent)) h2) ?_
  rintro _ _ ⟨ka, kc, qs, rfl, hq, rfl⟩
  refine ⟨chk_held (by exact ent), ?_⟩
  refine sx ?_
  refine s_bar ?_
  refine sx ?_
  refine s_retc rfl rfl (by exact at_) rfl ⟨⟨pa, pc, k.ps, ka, kc, qs⟩, rfl, ?_, rfl⟩ (Ent.oK (k := ⟨pa, pc, k.ps, ka, kc, qs⟩) (by exact rm) (by exact rm) (by exact rm) (by exact ent))
  exact congrArg (Prod.mk k.ps) hq
/-- For the children from i up to k. -/
def forP (ks : List Bs) (i k : Int) (m : MD) : Bool := decide (i ≤ ((chl ks m.lo : Nat) : Int)) && decide (((chl ks m.lo : Nat) : Int) < k)
structure FrJ where
  i : Nat
  ia : Option Addr
  ic : Nat
  is : List Mg
  oa : Option Addr
  oc : Nat
  os : List Mg
set_option maxHeartbeats 2000000 in
theorem rfor_s {n : Nd} {i k : Int} (hn : RNd w0 H n) (h3 : sumM n.md ≤ 549755813888) : FnS Try.prog w0 H 102 #[.agg n.cells.toArray, .int .i64 i, .int .i64 k] (fun v H' => ∃ (ia : Option Addr) (ic : Nat) (is : List Mg) (oa : Option Addr) (oc : Nat) (os : List Mg), v = .tuple #[.slice ia is.length ic, .slice oa os.length oc] ∧ H' = ol 78 ia ic is :: ol 78 oa oc os :: stars oM is :: stars oM os :: H ∧ is.map Mg.d = n.md.filter (forP n.k.keys i k) ∧ os.map Mg.d = n.md.filter fun m => !forP n.k.keys i k m) := by
  refine fns_enter Try.func102 rfl rfl rfl ?_
  have hk := hn.k
  have hms := hn.ms.sl
  refine s_kn (Kn.sl hms) fun l1 => ?_
  simp only [maxLen] at l1
  have hnl := sumM_len n.md
  rw [show n.md.length = n.ms.length from List.length_map _] at hnl
  refine sx ?_
  refine s_boxA rfl fun b3 => ?_
  refine sx ?_
  refine s_loop (fun q : FrJ => [(1, .int .i64 i), (2, .int .i64 k), (3, .pointer (some ⟨b3, 0, none⟩)), (8, .slice q.ia q.is.length q.ic), (9, .slice q.oa q.os.length q.oc), (10, .int .i64 q.i)]) (fun q => ol 78 q.ia q.ic q.is :: ol 78 q.oa q.oc q.os :: stars oM q.is :: stars oM q.os :: .hb b3 39 n.cells :: H) (fun q => q.i ≤ n.ms.length ∧ q.is.length + q.os.length = q.i ∧ q.is.map Mg.d = (n.md.take q.i).filter (forP n.k.keys i k) ∧ q.os.map Mg.d = (n.md.take q.i).filter fun m => !forP n.k.keys i k m) (fun q => n.ms.length - q.i) ⟨0, none, 0, [], none, 0, []⟩ ⟨Nat.zero_le _, rfl, rfl, rfl⟩ ?_ (he := Ent.nilS.trans (Ent.head (Ent.nilS.trans (Ent.head (stars_nil.trans (Ent.head (stars_nil.trans (Ent.head Ent.refl))))))))
  rintro ⟨j, ia, ic, is, oa, oc, os⟩ ⟨hj, hlen, his, hos⟩
  simp only at hj hlen his hos ⊢
  refine sx ?_
  refine s_if rfl (fun t1 => ?_) (fun t1 => ?_)
  · obtain ⟨m, hm⟩ := get_lt n.ms j (by omega)
    have hrm := hn.ms.el m (List.mem_of_getElem? hm)
    have hrl := hrm.lo
    have hmd := get_map (f := Mg.d) hm
    have h6 : sumM (n.md.take (j + 1)) = sumM (n.md.take j) + lenM m.d := sumM_get hmd
    have h7 := sumM_take n.md (j + 1)
    have h8 : lenM m.d = 13 + m.lo.length + m.hi.length + m.v.length := rfl
    refine sx ?_
    refine s_drU (.hb b3 39 n.cells :: H) (.one true 0 (.one true 1 (.one true 2 (.one true 3 (.one true 4 (.one true 5 (.one true 6 (.one true 7 .nil)))))))) (.one false 8 (.one true 9 .nil)) [8] #[true, true, true, true, true, true, true, true, false, false] mixed (by kernel_rfl) ?_
    refine sx ?_
    refine s_bar ?_
    refine sx ?_
    refine s_callV rfl (rchild_s (k := n.k) (key := m.lo) (by exact rkd) (by exact rby)) ?_
    have hch := chl_le n.k.keys m.lo
    generalize hc : chl n.k.keys m.lo = c at hch
    refine sx ?_
    apply s_joinU (X := forP n.k.keys i k m.d = false → _)
    · intro key
      refine s_lif rfl (fun t2 => ?_) (fun t2 => ?_)
      · refine sx ?_
        refine s_if rfl (fun t3 => ?_) (fun t3 => ?_)
        · have hp : forP n.k.keys i k m.d = true := by simp only [forP, hc, Bool.and_eq_true, decide_eq_true_eq]; omega
          refine sx ?_
          refine s_call rfl (rcopy7_s (m := m) (by exact rmg) (by omega) (by omega) (by omega)) ?_
          rintro _ _ ⟨m', rfl, hm', rfl⟩
          refine ⟨chk_seq, ?_⟩
          refine sx ?_
          refine s_bsl [m'] rfl rfl fun b66 => ?_
          refine sx ?_
          refine s_app (xs := is) ?_ (hby := by simp only [List.length_cons, List.length_nil]; omega)
          intro a4 c4
          refine sx ?_
          refine s_again ⟨j + 1, a4, c4, is ++ [m'], oa, oc, os⟩ ⟨by simp only; omega, by simp only [List.length_append, List.length_cons, List.length_nil]; omega, ?_, ?_⟩ (by simp only; omega) (he := ?_)
          · simp only [List.map_append]
            rw [his, snocT hmd, List.filter_append]
            simp [hp, hm']
          · simp only
            rw [hos, snocT hmd, List.filter_append]
            simp [hp]
          · refine Ent.cons (by exact rm) (Ent.cons (by exact rm) ?_)
            exact Ent.trans (H' := ob m'.la m'.lc m'.lo :: ob m'.ha m'.hc m'.hi :: ob m'.va m'.vc m'.v :: stars oM is :: stars oM os :: .hb b3 39 n.cells :: H) (by first | exact entq | exact ent) (stars_snoc (f := oM) (s := m'))
        · have stp : StopAt 9 := trivial
          refine sxs ?_
          refine s_sub (l' := [(1, .int .i64 i), (2, .int .i64 k), (3, .pointer (some ⟨b3, 0, none⟩)), (8, .slice ia is.length ic), (9, .slice oa os.length oc), (10, .int .i64 j)]) ?_ (by repeat (first | exact trivial | refine And.intro (by first | exact rfl | exact congrArg some (ci (by omega))) ?_))
          exact key.out (by simp only [forP, hc, Bool.and_eq_false_iff, decide_eq_false_iff_not]; omega)
      · have stp : StopAt 9 := trivial
        refine sxs ?_
        refine s_sub (l' := [(1, .int .i64 i), (2, .int .i64 k), (3, .pointer (some ⟨b3, 0, none⟩)), (8, .slice ia is.length ic), (9, .slice oa os.length oc), (10, .int .i64 j)]) ?_ (by repeat (first | exact trivial | refine And.intro (by first | exact rfl | exact congrArg some (ci (by omega))) ?_))
        exact key.out (by simp only [forP, hc, Bool.and_eq_false_iff, decide_eq_false_iff_not]; omega)
    · intro hp
      refine sx ?_
      refine s_call rfl (rcopy7_s (m := m) (by exact rmg) (by omega) (by omega) (by omega)) ?_
      rintro _ _ ⟨m', rfl, hm', rfl⟩
      refine ⟨chk_seq, ?_⟩
      refine sx ?_
      refine s_bsl [m'] rfl rfl fun b66 => ?_
      refine sx ?_
      refine s_app (xs := os) ?_ (hby := by simp only [List.length_cons, List.length_nil]; omega)
      intro a4 c4
      refine sx ?_
      refine s_again ⟨j + 1, ia, ic, is, a4, c4, os ++ [m']⟩ ⟨by simp only; omega, by simp only [List.length_append, List.length_cons, List.length_nil]; omega, ?_, ?_⟩ (by simp only; omega) (he := ?_)
      · simp only
        rw [his, snocT hmd, List.filter_append]
        simp [hp]
      · simp only [List.map_append]
        rw [hos, snocT hmd, List.filter_append]
        simp [hp, hm']
      · refine Ent.cons (by exact rm) (Ent.cons (by exact rm) (Ent.cons (by exact rm) ?_))
        exact Ent.trans (H' := ob m'.la m'.lc m'.lo :: ob m'.ha m'.hc m'.hi :: ob m'.va m'.vc m'.v :: stars oM os :: .hb b3 39 n.cells :: H) (by first | exact entq | exact ent) (stars_snoc (f := oM) (s := m'))
  · obtain rfl : j = n.ms.length := by omega
    have hT : n.md.take n.ms.length = n.md := List.take_of_length_le (by simp)
    rw [hT] at his hos
    refine sx ?_
    exact s_ret2 rfl rfl rfl ⟨ia, ic, is, oa, oc, os, rfl, rfl, his, hos⟩ (by exact ent)
theorem forP_one {ks : List Bs} {i : Int} {l : List MD} : l.filter (forP ks i (i + 1)) = forM ks i l ∧ (l.filter fun m => !forP ks i (i + 1) m) = othM ks i l := by
  have h : ∀ m : MD, forP ks i (i + 1) m = decide (((chl ks m.lo : Nat) : Int) = i) := fun m => by
    rw [forP, Bool.eq_iff_iff]
    simp only [Bool.and_eq_true, decide_eq_true_eq]
    omega
  exact ⟨List.filter_congr fun m _ => h m, List.filter_congr fun m _ => by rw [h m]⟩
set_option maxHeartbeats 2000000 in
theorem rntake_s {n : Nd} {i : Int} (hn : RNd w0 H n) (h1 : n.k.ps.length ≤ 4294967296) (h2 : keysB n.k.keys ≤ 1099511627776) (h3 : sumM n.md ≤ 549755813888) : FnS Try.prog w0 H 63 #[.agg n.cells.toArray, .int .i64 i] (fun v H' => ∃ (q : Nd) (la : Option Addr) (lc : Nat) (ls : List Mg) (e : Int), v = .tuple #[.agg q.cells.toArray, .slice la ls.length lc, .int .i64 e] ∧ H' = ol 78 la lc ls :: stars oM ls :: oN q H ∧ (if i < 0 ∨ (n.k.ps.length : Int) ≤ i then e = 1 ∧ q.k.d = ([], []) ∧ q.md = [] ∧ ls = [] else e = 0 ∧ q.k.d = n.k.d ∧ q.md = othM n.k.keys i n.md ∧ ls.map Mg.d = forM n.k.keys i n.md)) := by
  refine fns_enter Try.func63 rfl rfl rfl ?_
  have hk := hn.k
  refine sx ?_
  refine s_boxA rfl fun b2 => ?_
  refine sx ?_
  refine s_alloc fun b4 => ?_
  refine sx ?_
  have hlif : i < 0 ∨ (n.k.ps.length : Int) ≤ i → ∀ {H : List Ck}, ∃ (q : Nd) (la : Option Addr) (lc : Nat) (ls : List Mg) (e : Int), Value.tuple #[.agg nd0.cells.toArray, .slice none 0 0, .int .i64 1] = .tuple #[.agg q.cells.toArray, .slice la ls.length lc, .int .i64 e] ∧ ol 78 none 0 ([] : List Mg) :: stars oM ([] : List Mg) :: oN nd0 H = ol 78 la lc ls :: stars oM ls :: oN q H ∧ (if i < 0 ∨ (n.k.ps.length : Int) ≤ i then e = 1 ∧ q.k.d = ([], []) ∧ q.md = [] ∧ ls = [] else e = 0 ∧ q.k.d = n.k.d ∧ q.md = othM n.k.keys i n.md ∧ ls.map Mg.d = forM n.k.keys i n.md) := fun h {H} => ⟨nd0, none, 0, [], 1, rfl, rfl, by rw [if_pos h]; exact ⟨rfl, rfl, rfl, rfl⟩⟩
  refine s_lif rfl (fun t1 => ?_) (fun t1 => ?_)
  · refine sx ?_
    exact s_retcvv rfl rfl rfl rfl (by exact at_) rfl (hlif (.inl t1)) ((Ent.tl (Ent.tl Ent.refl)).trans (hnilN.trans nilM))
  refine sx ?_
  refine s_rw (t := 14) (v' := .pointer (some ((⟨b2, 0, none⟩ : Addr).add 0))) rfl rfl ?_
  refine sx ?_
  refine s_if rfl (fun t2 => ?_) (fun t2 => ?_)
  · refine sx ?_
    exact s_retcvv rfl rfl rfl rfl (by exact at_) rfl (hlif (.inr t2)) ((Ent.tl (Ent.tl Ent.refl)).trans (hnilN.trans nilM))
  refine sx ?_
  refine s_call rfl (rfor_s (n := n) (i := i) (k := i + 1) (by exact rnd) h3) ?_
  rintro _ _ ⟨ia, ic, is, oa, oc, os, rfl, rfl, his, hos⟩
  refine ⟨chk_seq, ?_⟩
  rw [forP_one.1] at his
  rw [forP_one.2] at hos
  refine sx ?_
  refine s_call rfl (rcopyK_s (k := n.k) (by exact rkd) h1 h2) ?_
  rintro _ _ ⟨k', rfl, hkd, rfl⟩
  refine ⟨chk_seq, ?_⟩
  refine sx ?_
  exact s_retcvv rfl rfl rfl rfl (by exact at_) rfl ⟨⟨k', oa, oc, os⟩, ia, ic, is, 0, rfl, rfl, by rw [if_neg (by omega)]; exact ⟨rfl, hkd, hos, his⟩⟩ (by exact ent)
set_option maxHeartbeats 1000000 in
theorem rweights_s {n : Nd} (hn : RNd w0 H n) (h1 : n.k.ps.length ≤ 4294967296) (h2 : n.k.ks.length < n.k.ps.length) (h3 : sumM n.md ≤ 549755813888) : FnS Try.prog w0 H 62 #[.agg n.cells.toArray] (fun v H' => ∃ a c, v = .slice a (wtL n.k.ps.length n.k.keys n.md).length c ∧ H' = ol 3 a c (wtL n.k.ps.length n.k.keys n.md) :: H) := by
  refine fns_enter Try.func62 rfl rfl rfl ?_
  have hms := hn.ms.sl
  have hk := hn.k
  have hps := hn.k.ps
  refine s_kn (Kn.sl hms) fun l1 => ?_
  simp only [maxLen] at l1
  refine sx ?_
  refine s_boxA rfl fun b1 => ?_
  refine sx ?_
  refine s_rw (t := 7) (v' := .pointer (some ((⟨b1, 0, none⟩ : Addr).add 0))) rfl rfl ?_
  refine sx ?_
  refine s_make rfl rfl (by omega) fun b => ?_
  refine sx ?_
  have hW := fun (i : Nat) => wtL_len n.k.ps.length n.k.keys (n.md.take i)
  refine s_loop (fun i : Nat => [(1, .pointer (some ⟨b1, 0, none⟩)), (3, .slice (some b) (wtL n.k.ps.length n.k.keys (n.md.take i)).length n.k.ps.length), (4, .int .i64 i)]) (fun i => ol 3 (some b) n.k.ps.length (wtL n.k.ps.length n.k.keys (n.md.take i)) :: .hb b1 39 n.cells :: H) (fun i => i ≤ n.ms.length) (fun i => n.ms.length - i) 0 (Nat.zero_le _) ?_ (h0 := by rw [List.take_zero, wtL_nil, List.length_replicate]; repeat (first | exact trivial | refine And.intro (by first | exact rfl | exact congrArg some (ci (by omega))) ?_)) (he := by rw [List.take_zero, wtL_nil]; exact Ent.cons (by exact rm) (by exact ent))
  intro i hi
  refine sx ?_
  refine s_if rfl (fun t1 => ?_) (fun t1 => ?_)
  · obtain ⟨m, hm⟩ := get_lt n.ms i (by omega)
    have hmd := get_map (f := Mg.d) hm
    have hrm := hn.ms.el m (List.mem_of_getElem? hm)
    have hrl := hrm.lo
    have ha1 := (hn.ms.at1 hm).sl
    have hsn : n.md.take (i + 1) = n.md.take i ++ [m.d] := snocT hmd
    have h6 : sumM (n.md.take (i + 1)) = sumM (n.md.take i) + lenM m.d := sumM_get hmd
    have h7 := sumM_take n.md (i + 1)
    have h8 := sumM_filter (n.md.take i) (fun x => decide (chl n.k.keys x.lo = chl n.k.keys m.lo))
    have t2' : chl n.k.keys m.lo < n.k.ps.length := by
      have := chl_le n.k.keys m.lo
      rw [show n.k.keys.length = n.k.ks.length from List.length_map _] at this
      omega
    have hg := wtL_get (ks := n.k.keys) (l := n.md.take i) t2'
    have hst := wtL_snoc (m := m.d) hg
    rw [← hsn] at hst
    generalize hw : ((sumM ((n.md.take i).filter fun x => decide (chl n.k.keys x.lo = chl n.k.keys m.lo)) : Nat) : Int) = w at hg hst
    have hl : chl n.k.keys m.lo < (wtL n.k.ps.length n.k.keys (n.md.take i)).length := by rw [hW]; exact t2'
    generalize wtL n.k.ps.length n.k.keys (n.md.take i) = W at hg hst hl ⊢
    have hml : lenM m.d = 13 + m.lo.length + m.hi.length + m.v.length := rfl
    refine sx ?_
    refine s_drU (ol 3 (some b) n.k.ps.length W :: .hb b1 39 n.cells :: H) (.one true 0 (.one true 1 (.one true 2 (.one true 3 (.one true 4 (.one true 5 (.one true 6 (.one true 7 .nil)))))))) (.one false 8 (.one true 9 .nil)) [8] #[true, true, true, true, true, true, true, true, false, false] mixed (by kernel_rfl) ?_
    refine sx ?_
    refine s_bar ?_
    refine sx ?_
    refine s_callV rfl (rchild_s (k := n.k) (key := m.lo) (by exact rkd) (by exact rby)) ?_
    refine sx ?_
    refine s_drU (ol 3 (some b) n.k.ps.length W :: .hb b1 39 n.cells :: H) (.one true 0 (.one true 1 (.one true 2 (.one true 3 (.one true 4 (.one true 5 (.one true 6 (.one true 7 (.one true 8 (.one true 9 (.one true 10 (.one true 11 (.one false 12 (.one true 13 (.one true 14 (.one true 15 .nil)))))))))))))))) (.one false 16 .nil) [16] #[true, true, true, true, true, true, true, true, true, true, true, true, true, true, true, true, false] mixed (by kernel_rfl) ?_
    refine sx ?_
    refine s_rw (t := 37) (v' := .int .i64 ((i + 1 : Nat) : Int)) rfl (ci (by omega)) ?_
    refine sx ?_
    refine s_rw (t := 38) (v' := .slice (Sx.sl n.ma n.mc i 5) ([m] : List Mg).length (n.mc - i)) rfl (by rw [Nat.add_sub_cancel_left]; rfl) ?_
    have e1 : sumM (List.map Mg.d [m]) = lenM m.d := by simp [sumM]
    have e2 : bytesM (List.map Mg.d [m]) = 4 + lenM m.d := by rw [bytesM, e1]
    refine s_callV rfl (rmbytes_s (ms := [m]) (by exact rsl) (by rw [e1]; omega)) ?_
    rw [e2]
    refine sx ?_
    refine s_bar ?_
    refine s_rw (t := 41) (v' := .int .i64 (w + lenM m.d)) rfl (ci (by omega)) ?_
    refine sx ?_
    refine s_set1g (y := w + lenM m.d) (i := chl n.k.keys m.lo) rfl rfl (by exact at_) rfl (by omega) ?_
    have e0 : chl n.k.keys m.d.lo = chl n.k.keys m.lo := rfl
    rw [e0] at hst
    have hl2 : (W.set (chl n.k.keys m.lo) (w + lenM m.d)).length = W.length := List.length_set
    rw [← hst] at hl2 ⊢
    rw [← hl2]
    refine sx ?_
    exact s_again (i + 1) (by omega) (by omega)
  · obtain rfl : i = n.ms.length := by omega
    rw [List.take_of_length_le (show n.md.length ≤ n.ms.length by simp)]
    refine sx ?_
    exact s_ret1 rfl rfl ⟨some b, n.k.ps.length, rfl, rfl⟩
end Go.Sx
