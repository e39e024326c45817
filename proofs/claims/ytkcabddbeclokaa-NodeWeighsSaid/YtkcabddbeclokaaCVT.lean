/- The law NodeWeighs, walked. -/
import Derived.Test.YtkcabddbeclokaaCVS
import Derived.Test.YtkcabddbeclokaaCVM
namespace Go.Sx
open Go Go.Proofs
set_option maxRecDepth 10000
variable {w0 : World} {H : List Ck}
theorem filt_filt {l : List MD} {p : MD → Bool} : (l.filter fun m => !p m).filter p = [] ∧ ((l.filter fun m => !p m).filter fun m => !p m) = l.filter fun m => !p m := by
  constructor
  · rw [List.filter_filter, List.filter_eq_nil_iff]
    intro m _
    cases p m <;> simp
  · rw [List.filter_filter]
    congr 1
    funext m
    cases p m <;> rfl
theorem filt_len (l : List MD) (p : MD → Bool) : (l.filter fun m => !p m).length + (l.filter p).length = l.length := by
  induction l with
  | nil => rfl
  | cons m l ih =>
    simp only [List.filter_cons]
    cases p m <;> simp <;> omega
theorem part_sum {l : List Int} (h : ∀ w ∈ l, 0 ≤ w) (i : Nat) : 0 ≤ (l.take i).sum ∧ (l.take i).sum ≤ l.sum := by
  induction l generalizing i with
  | nil => simp
  | cons x l ih =>
    have h1 := ih (fun w hw => h w (by simp [hw]))
    have h2 := h x (by simp)
    have h3 := (h1 l.length).1
    rw [List.take_length] at h3
    cases i with
    | zero => simp; omega
    | succ i =>
      have := h1 i
      simp only [List.take_succ_cons, List.sum_cons]
      omega
theorem RNd.fit {n : Nd} (hs : n.Small) : (∀ m ∈ n.ms, m.lo.length ≤ 140737488355327 ∧ m.hi.length ≤ 140737488355328 ∧ m.v.length ≤ 140737488355328) ∧ n.ms.length ≤ 1099511627776 := by
  have h1 := hs.m
  have h2 := sumM_len n.md
  rw [show n.md.length = n.ms.length from List.length_map _] at h2
  refine ⟨fun m hm => ?_, by omega⟩
  obtain ⟨i, hi⟩ := List.getElem?_of_mem hm
  have h3 := sumM_get (get_map (f := Mg.d) hi)
  have h4 := sumM_take n.md (i + 1)
  have h5 : lenM m.d = 13 + m.lo.length + m.hi.length + m.v.length := rfl
  have h6 : sumM (List.take (i + 1) (List.map Mg.d n.ms)) = sumM (n.md.take (i + 1)) := rfl
  omega
set_option maxHeartbeats 4000000 in
theorem nweighs_s {raw c : Int} {n : Nd} (hr : I64 raw) (hc : I64 c) (hn : RNd w0 H n) (hft : n.Fit) (hI : ∀ p ∈ n.k.ps, I64 p) : FnV Try.prog w0 H 8 #[.int .i64 raw, .agg n.cells.toArray, .int .i64 c] (.bool true) := by
  refine fns_enter Try.func8 rfl rfl rfl ?_
  have hk := hn.k
  have hps := hk.ps
  have hms := hn.ms.sl
  refine s_kn (Kn.sl hps) fun l1 => s_kn (Kn.sl hms) fun l3 => ?_
  simp only [maxLen] at l1 l3
  refine sx ?_
  refine s_boxA rfl fun b4 => ?_
  refine sx ?_
  refine s_callV rfl nshown_s ?_
  refine sx ?_
  refine s_callV rfl (npick_s hr (by decide)) ?_
  obtain ⟨m, hm, hm4⟩ := pkL_nat (c := raw) (n := 4) (by decide)
  rw [hm]
  have hs := size_of (m := m) (by omega)
  refine s_yS rfl rfl rfl (y_shlv (a := 512) (m := m) rfl rfl (by omega) (by have := sizedB_bd hs; omega)) ?_
  generalize ((512 * 2 ^ m : Nat) : Int) = size at hs ⊢
  have hsb := sizedB_bd hs
  refine sx ?_
  refine s_call rfl (nweight_s (n := n) (by exact rnd) hft) ?_
  rintro _ _ ⟨x, rfl, hx0, hx1, rfl⟩
  refine ⟨chk_seq, ?_⟩
  refine sx ?_
  refine s_lif rfl (fun t1 => ?_) (fun t1 => ?_)
  · refine sx ?_
    exact s_ret1 rfl rfl ⟨rfl, rfl⟩
  have hsm := Nd.small_of (by omega) hx1
  have hsp := hsm.p
  have hsk := hsm.k
  have hsm' := hsm.m
  have hsb2 : bytesK n.k.d + sumM n.md ≤ 60000000000 := by
    have : bytesK n.k.d = 2 + 4 * n.k.ps.length + keysB n.k.keys := rfl
    omega
  obtain ⟨hfit, hml⟩ := RNd.fit hsm
  refine sx ?_
  refine s_callV rfl (ncheck_s (n := n) (size := size) (by exact rnd) hI (by omega)) ?_
  refine sx ?_
  refine s_lifn rfl (fun t2 => ?_) (fun t2 => ?_)
  · refine sx ?_
    exact s_ret1 rfl rfl ⟨rfl, rfl⟩
  have hN : chkN size n.k.d n.md = 0 := t2
  obtain ⟨q1, q2, q3, q4⟩ := chkN_0 hN
  obtain ⟨_, ⟨hf, hp2, _, _⟩, hy, hR, _⟩ := chkK_0 q1
  have hf' : n.k.ks.length + 1 = n.k.ps.length := by
    have : n.k.keys.length = n.k.ks.length := List.length_map _
    have hf : n.k.keys.length + 1 = n.k.ps.length := hf
    omega
  have hp2 : 2 ≤ n.k.ps.length := hp2
  refine sx ?_
  refine s_callV rfl (mbytes_s (ms := []) (a := none) (c := 0) RSl.nil (by decide)) ?_
  rw [show bytesM (List.map Mg.d ([] : List Mg)) = 4 from rfl]
  refine sx ?_
  refine s_call rfl (nweights_s (n := n) (by exact rnd) (by omega) (by omega)) ?_
  rintro _ _ ⟨wa, wc, rfl, rfl⟩
  refine ⟨chk_seq, ?_⟩
  have hwl := wtL_len n.k.ps.length n.k.keys n.md
  have hws := wtL_sum (k := n.k.ps.length) (ks := n.k.keys) (by rw [List.length_map]; omega) n.md
  have hwg : ∀ i, i < n.k.ps.length → (wtL n.k.ps.length n.k.keys n.md)[i]? = some ((sumM (forM n.k.keys (i : Int) n.md) : Nat) : Int) := fun i hi => by rw [wtL_get hi, forM_eq]
  have hW0 : ∀ w ∈ wtL n.k.ps.length n.k.keys n.md, 0 ≤ w := fun w hw => by
    obtain ⟨i, hi⟩ := List.getElem?_of_mem hw
    have hil := (List.getElem?_eq_some_iff.1 hi).1
    rw [hwg i (by omega)] at hi
    injection hi with hi
    omega
  generalize wtL n.k.ps.length n.k.keys n.md = W at hwl hws hwg hW0 ⊢
  refine sx ?_
  refine s_rw (t := 49) (v' := .pointer (some ((⟨b4, 0, none⟩ : Addr).add 0))) rfl rfl ?_
  refine sx ?_
  refine s_ifn rfl (fun t3 => by exfalso; omega) (fun t3 => ?_)
  refine sx ?_
  refine s_cutB (ι := Unit) (fun _ => [(2, .int .i64 c), (4, .pointer (some ⟨b4, 0, none⟩)), (7, .bool true), (8, .int .i64 size), (9, .int .i64 4), (10, .slice wa W.length wc), (11, .int .i64 W.sum)]) (fun _ => ol 3 wa wc W :: .hb b4 39 n.cells :: H) (fun _ => True) ?_ ?_
  · refine s_loop (fun i : Nat => [(2, .int .i64 c), (4, .pointer (some ⟨b4, 0, none⟩)), (7, .bool true), (8, .int .i64 size), (9, .int .i64 4), (10, .slice wa W.length wc), (11, .int .i64 (W.take i).sum), (12, .int .i64 i)]) (fun _ => ol 3 wa wc W :: .hb b4 39 n.cells :: H) (fun i => i ≤ W.length) (fun i => W.length - i) 0 (Nat.zero_le _) ?_
    intro i hi
    refine sx ?_
    refine s_if rfl (fun t4 => ?_) (fun t4 => ?_)
    · obtain ⟨w, hw⟩ := get_lt W i (by omega)
      have hsn : (W.take (i + 1)).sum = (W.take i).sum + w := by rw [snocT hw]; simp
      have hw0 := hW0 w (List.mem_of_getElem? hw)
      have hp1 := part_sum hW0 i
      have hp2 := part_sum hW0 (i + 1)
      refine sx ?_
      refine s_rwQ (t := 11) (v' := .int .i64 (W.take (i + 1)).sum) rfl (by rw [hsn]) ?_
      exact s_again (i + 1) (by omega) (by omega)
    · obtain rfl : i = W.length := by omega
      rw [List.take_length]
      refine sx ?_
      exact s_mid () trivial
  rintro _ _
  refine sx ?_
  refine s_callV rfl (npick_s hc (by omega)) ?_
  obtain ⟨i, hi, hi4⟩ := pkL_nat (c := c) (n := (W.length : Int)) (by omega)
  rw [hi]
  refine sx ?_
  refine s_call rfl (ntake_s (n := n) (i := (i : Int)) (by exact rnd) (by omega) (by omega) (by omega)) ?_
  rintro _ _ ⟨q, la, lc, ls, e, rfl, rfl, ht⟩
  rw [if_neg (by omega)] at ht
  obtain ⟨rfl, hqd, hqm, hls⟩ := ht
  refine ⟨chk_seq, ?_⟩
  refine sx ?_
  refine s_alloc fun b14 => ?_
  refine sx ?_
  rw [forM_eq] at hls
  rw [othM_eq] at hqm
  have hW := hwg i (by omega)
  rw [forM_eq] at hW
  have hT := taken_may (i := i) hN
  have hO := left_may (i := i) hN
  have hwi := within_all (i := i) hN (by show i < n.k.ps.length; omega)
  have hlen := filt_len n.md (fun m => decide (chl n.k.keys m.lo = i))
  have hff := filt_filt (l := n.md) (p := fun m => decide (chl n.k.keys m.lo = i))
  have hfs := sumM_filter n.md (fun m => decide (chl n.k.keys m.lo = i))
  have hfo := sumM_filter n.md (fun m => !decide (chl n.k.keys m.lo = i))
  rw [show n.k.d.2 = n.k.keys from rfl] at hT hO hwi
  generalize hL : n.md.filter (fun m => decide (chl n.k.keys m.lo = i)) = L at hls hT hwi hlen hfs hW
  generalize hO' : n.md.filter (fun m => !decide (chl n.k.keys m.lo = i)) = O at hqm hO hlen hff hfo
  have hqk : q.k.keys = n.k.keys := congrArg Prod.snd hqd
  have hqp : q.k.ps = n.k.ps := congrArg Prod.fst hqd
  have hll : ls.length = L.length := by rw [← hls, List.length_map]
  have hol : q.ms.length = O.length := by rw [← hqm, List.length_map]
  have hnl : n.md.length = n.ms.length := List.length_map _
  have hLs := sumM_pos (l := L)
  have hLn := sumM_len L
  have hOn := sumM_len O
  have rq : RNd w0 (.hb b14 39 q.cells :: ol 78 la lc ls :: stars oM ls :: oN q (ol 3 wa wc W :: .hb b4 39 n.cells :: H)) q := RNd.oN.tl.tl.tl
  have rn : RNd w0 (.hb b14 39 q.cells :: ol 78 la lc ls :: stars oM ls :: oN q (ol 3 wa wc W :: .hb b4 39 n.cells :: H)) n := hn.ent (by repeat (first | exact Ent.refl | apply Ent.tl))
  have rl : RMs w0 (.hb b14 39 q.cells :: ol 78 la lc ls :: stars oM ls :: oN q (ol 3 wa wc W :: .hb b4 39 n.cells :: H)) la lc ls := ⟨RSl.hd.tl, fun m hm => ((RMg.oM (H := [])).ent (by rw [List.append_nil]; exact stars_mem hm)).tl.tl⟩
  have rW : RSl w0 (.hb b14 39 q.cells :: ol 78 la lc ls :: stars oM ls :: oN q (ol 3 wa wc W :: .hb b4 39 n.cells :: H)) wa wc W := (RSl.hd (E := 3)).ent (by repeat (first | exact Ent.refl | apply Ent.tl))
  have rqk := rq.k
  have rnk := rn.k
  have rqm := rq.ms
  have rnm := rn.ms
  have rnms := rnm.sl
  have rls := rl.sl
  refine sx ?_
  refine s_callV rfl (nsameK_s (k := q.k) (q := n.k) rqk rnk) ?_
  rw [decide_eq_true hqd]
  refine sx ?_
  refine s_rw (t := 84) (v' := .agg (Rg.cells ⟨none, 0, [], none, 0, [], true⟩).toArray) rfl rfl ?_
  refine sx ?_
  refine s_call rfl (bspan_s (k := n.k) (r := ⟨none, 0, [], none, 0, [], true⟩) (i := (i : Int)) rnk ⟨RBy.nil, RBy.nil⟩ ⟨by omega, by omega⟩ hft.kl ⟨by decide, by decide⟩) ?_
  rintro _ _ ⟨sp, rfl, hsp', rfl⟩
  have hok : spOk n.k.d (i : Int) := ⟨hf, by omega, by show (i : Int) < (n.k.ps.length : Int); omega⟩
  rw [if_pos hok] at hsp' ⊢
  rw [show ((i : Int)).toNat = i from rfl] at hsp'
  refine ⟨chk_seq, ?_⟩
  refine sx ?_
  refine s_alloc fun b18 => ?_
  refine sx ?_; refine s_dr (.one true 0 (.one true 1 (.one true 2 (.one true 4 (.one false 3 (.one true 5 (.one true 6 (.one true 7 (.one true 8 (.one true 9 (.one true 10 (.one true 11 (.one true 12 (.one true 13 (.one true 14 (.one true 15 (.one true 16 (.one true 17 (.one true 18 (.one true 19 (.one true 20 (.one true 22 (.one true 24 (.one true 25 (.one true 26 (.one true 27 (.one false 21 (.one true 23 (.one true 28 (.one true 29 (.one true 30 (.one true 31 (.one true 32 (.one true 33 (.one true 34 (.one true 35 (.one true 36 (.one true 37 (.one true 38 (.one true 39 (.one true 40 (.one true 41 (.one true 42 (.one true 43 (.one false 44 (.one true 45 (.one true 46 (.one true 47 (.one true 48 (.one true 49 (.one false 50 (.one true 51 (.one true 52 .nil))))))))))))))))))))))))))))))))))))))))))))))))))))) mixed (by kernel_rfl) ?_; refine sx ?_
  have hb1 : bytesM (List.map Mg.d n.ms) = 4 + sumM n.md := rfl
  have hb2 : bytesM (List.map Mg.d ls) = 4 + sumM L := by rw [hls]; rfl
  refine s_callV rfl (mbytes_s (ms := n.ms) (by exact rsl) (by show sumM n.md ≤ _; omega)) ?_
  rw [hb1]
  refine sx ?_
  refine s_lifn rfl (fun t => by exfalso; omega) (fun t => ?_)
  refine sx ?_
  refine s_callV rfl (mbytes_s (ms := ls) (by exact rsl) (by rw [hls]; omega)) ?_
  rw [hb2]
  refine sx ?_
  refine s_lifn rfl (fun t => by exfalso; omega) (fun t => ?_)
  refine sx ?_
  refine s_rw (t := 130) (v' := .bool false) rfl (by
    have : decide ((ls.length : Int) = 0) = decide (((sumM L : Nat) : Int) = 0) := decide_eq_decide.2 (by omega)
    rw [this]
    simp) ?_
  refine sx ?_
  refine s_callV rfl (mcheck_s (ms := ls) (size := size) (by exact rms)) ?_
  rw [hls, hT]
  refine sx ?_
  have hcq : chkN size q.k.d q.md = 0 := by rw [hqd, hqm]; exact hO
  refine s_callV rfl (ncheck_s (n := q) (size := size) (by exact rnd) (by rw [hqp]; exact hI) (by rw [hqm]; omega)) ?_
  rw [hcq]
  refine sx ?_
  have zq : ∀ m ∈ ls, m.lo.length ≤ 140737488355327 ∧ m.hi.length ≤ 140737488355328 ∧ m.v.length ≤ 140737488355328 := fun m hm => by
    obtain ⟨j, hj⟩ := List.getElem?_of_mem hm
    have h3 := sumM_get (get_map (f := Mg.d) hj)
    have h4 := sumM_take (ls.map Mg.d) (j + 1)
    have h5 : lenM m.d = 13 + m.lo.length + m.hi.length + m.v.length := rfl
    have h6 : sumM (ls.map Mg.d) = sumM L := by rw [hls]
    omega
  have spl : sp.lo.length ≤ 140737488355328 ∧ sp.hi.length ≤ 140737488355328 := by
    have hsa := sp_all (i := i) (fun x hx => (hy x hx).1) hR (by show i ≤ n.k.keys.length; rw [List.length_map]; omega)
    rw [← hsp'] at hsa
    have hkl : ∀ j, (n.k.d.2.getD j []).length ≤ 140737488355328 := fun j => by
      rw [List.getD_eq_getElem?_getD]
      cases h : n.k.d.2[j]? with
      | none => exact Nat.zero_le _
      | some x =>
        have := hy x (List.mem_of_getElem? h)
        simp only [Option.getD_some]
        omega
    have e1 : sp.lo = _ := congrArg Prod.fst hsa
    have e2 : sp.hi = _ := congrArg (fun t => t.2.1) hsa
    rw [e1, e2]
    constructor
    · show (if 0 < i then n.k.d.2.getD (i - 1) [] else []).length ≤ _
      split
      · exact hkl _
      · exact Nat.zero_le _
    · show (if i < n.k.d.2.length then n.k.d.2.getD i [] else []).length ≤ _
      split
      · exact hkl _
      · exact Nat.zero_le _
  refine s_call rfl (mwithin_s (ms := ls) (r := sp) (by exact rms) (by exact rrg) (by omega) zq spl) ?_
  rintro _ _ ⟨xa, xc, xs, rfl, hxs, rfl⟩
  refine ⟨chk_seq, ?_⟩
  have hxs2 : xs.map Mg.d = ls.map Mg.d := by rw [hxs, hls, hsp']; exact hwi
  have rx : RMs w0 (ol 78 xa xc xs :: stars oM xs :: (.hb b18 68 sp.cells :: oR sp :: .hb b14 39 q.cells :: ol 78 la lc ls :: stars oM ls :: oN q (ol 3 wa wc W :: .hb b4 39 n.cells :: H))) xa xc xs := ⟨RSl.hd, fun m hm => ((RMg.oM (H := [])).ent (by rw [List.append_nil]; exact stars_mem hm)).tl⟩
  refine sx ?_
  refine s_callV rfl (nsameM_s (xs := xs) (ys := ls) (by exact rms) (by exact rms)) ?_
  rw [decide_eq_true hxs2]
  refine sx ?_
  have hqm' : List.map Mg.d q.ms = O := hqm
  have hqz : sumM q.md = sumM O := by rw [hqm]
  refine s_call rfl (ntake_s (n := q) (i := (i : Int)) (by exact rnd) (by rw [hqp]; omega) (by rw [hqk]; omega) (by omega)) ?_
  rintro _ _ ⟨u, ua, uc, us, e, rfl, rfl, hu⟩
  rw [if_neg (by rw [hqp]; omega)] at hu
  obtain ⟨rfl, hud, hum, hus⟩ := hu
  rw [forM_eq, hqm, hqk, hff.1] at hus
  rw [othM_eq, hqm, hqk, hff.2] at hum
  have hul : us.length = 0 := by have := congrArg List.length hus; simpa using this
  refine ⟨chk_seq, ?_⟩
  refine sx ?_
  refine s_alloc fun b21 => ?_
  refine sx ?_
  refine s_callV rfl (nsame_s (n := u) (q := q) RNd.oN.tl.tl.tl (by exact rnd)) ?_
  rw [decide_eq_true (show u.k.d = q.k.d ∧ u.md = q.md from ⟨hud, by rw [hum, hqm]⟩)]
  refine sx ?_
  refine s_lif rfl (fun t => by exfalso; omega) (fun t => ?_)
  refine sx ?_
  refine s_ifn rfl (fun t => by exfalso; omega) (fun t => ?_)
  refine sx ?_
  refine s_callV rfl (woven_s (l := n.ms) (q := q.ms) (r := ls) (p := fun m => decide (chl n.k.keys m.lo = i)) (by exact rms) (by exact rms) (by exact rms) (by rw [hqm']; exact hO'.symm) (by rw [hls]; exact hL.symm)) ?_
  refine sx ?_
  exact s_ret1 rfl rfl ⟨rfl, rfl⟩ (by repeat (first | with_reducible exact Ent.refl | apply Ent.tl))
end Go.Sx
