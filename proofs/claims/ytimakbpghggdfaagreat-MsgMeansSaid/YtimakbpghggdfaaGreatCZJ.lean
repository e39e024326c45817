/- Part of a proof: what one message does to a key, and all of them; what entries have of it; walked. -/
import Derived.Test.YtimakbpghggdfaaGreatCZI
import Derived.Test.YtimakbpghggdfaaGreatCGM
namespace Go.Sx
open Go Go.Proofs
set_option maxRecDepth 10000
variable {w0 : World} {H : List Ck}
theorem getE_snoc (l : List KV) (e : KV) (key : Bs) : getE (l ++ [e]) key = if e.k = key then some e.v else getE l key := by
  unfold getE
  rw [List.filter_append]
  by_cases h : e.k = key
  · simp [kf, h]
  · simp [kf, h]
theorem IsApp.get {l : List KV} {ms : List MD} {out : List KV} (h : IsApp l ms out) (key : Bs) : getE out key = appO (getE l key) (getM ms key) := by
  rcases g : getE out key with _ | v
  · rcases k : appO (getE l key) (getM ms key) with _ | v
    · rfl
    · obtain ⟨e, he, e1, _⟩ := (h.eq key v).2 k
      exact absurd e1 (getE_none.1 g e he)
  · exact ((h.eq key v).1 (getE_some g)).symm
def cntE (l : List KV) (key : Bs) : Nat := (l.filter (kf key)).length
theorem cntE_snoc (l : List KV) (e : KV) (key : Bs) : cntE (l ++ [e]) key = if e.k = key then cntE l key + 1 else cntE l key := by
  unfold cntE
  rw [List.filter_append]
  by_cases h : e.k = key
  · simp [kf, h]
  · simp [kf, h]
theorem cntE_le (l : List KV) (key : Bs) : cntE l key ≤ l.length := List.length_filter_le _ _
theorem cntE_up {l : List KV} (h : RiE l) (key : Bs) : cntE l key = if (getE l key).isSome = true then 1 else 0 := by
  unfold cntE getE
  have hf : ∀ x ∈ l.filter (kf key), x.k = key := fun x hx => by simpa [kf] using (List.mem_filter.1 hx).2
  have hp : (l.filter (kf key)).Pairwise fun a b => cmp a.k b.k < 0 := List.Pairwise.sublist List.filter_sublist h
  generalize l.filter (kf key) = f at hf hp ⊢
  rcases f with _ | ⟨a, _ | ⟨b, r⟩⟩
  · rfl
  · rfl
  · have h1 := (List.pairwise_cons.1 hp).1 b (by simp)
    rw [hf a (by simp), hf b (by simp), cmp_self] at h1
    omega
def doesM (m : MD) (key : Bs) (o : Option Bs) : Option Bs := if hasB (saidR m) key = true then (if m.kd = 1 then some m.v else none) else o
abbrev OpR (w0 : World) (H : List Ck) (r : Option Bs) : Value → List Ck → Prop := fun v H' => ∃ wa wc, v = .tuple #[.bool r.isSome, .slice wa (r.getD []).length wc] ∧ RBy w0 H wa wc (r.getD []) ∧ H' = H
set_option maxHeartbeats 2000000 in
theorem does_s {m : Mg} {key : Bs} {o : Option Bs} {ka va : Option Addr} {kc vc : Nat} (hm : RMg w0 H m) (hk : RBy w0 H ka kc key) (hv : RBy w0 H va vc (o.getD [])) :
    FnS Tryz.prog w0 H 44 #[.agg m.cells.toArray, .slice ka key.length kc, .bool o.isSome, .slice va (o.getD []).length vc] (OpR w0 H (doesM m.d key o)) := by
  refine fns_enter Tryz.func44 rfl rfl rfl ?_
  have hlo := hm.lo
  have hhi := hm.hi
  have hmv := hm.v
  have one : m.kd = 1 ∨ m.kd = 2 → (hasB (saidR m.d) key = true ↔ m.lo = key) := fun h => by rw [said_one h, has_one]; exact eq_comm
  refine sx ?_
  refine s_boxA rfl fun b4 => ?_
  refine sx ?_
  refine s_if rfl (fun t1 => ?_) (fun t1 => ?_)
  · have h1 := one (.inl t1)
    refine sx ?_
    refine s_callV rfl (compare_s hlo.tl hk.tl) ?_
    refine sx ?_
    refine s_if rfl (fun t2 => ?_) (fun t2 => ?_)
    · have e : doesM m.d key o = some m.v := by unfold doesM; rw [if_pos (h1.2 ((cmp_eq _ _).1 t2)), if_pos t1]
      rw [e]
      refine sx ?_; refine s_dr (.one true 0 (.one true 1 (.one true 2 (.one true 3 .nil)))) mixed (by kernel_rfl) ?_; refine sx ?_
      exact s_ret2 rfl rfl rfl ⟨m.va, m.vc, rfl, hmv, rfl⟩
    · have e : doesM m.d key o = o := by unfold doesM; rw [if_neg (fun g => t2 ((cmp_eq _ _).2 (h1.1 g)))]
      rw [e]
      refine sx ?_
      exact s_ret2 rfl rfl rfl ⟨va, vc, rfl, hv, rfl⟩
  refine sx ?_
  refine s_if rfl (fun t3 => ?_) (fun t3 => ?_)
  · have h1 := one (.inr t3)
    refine sx ?_
    refine s_callV rfl (compare_s hlo.tl hk.tl) ?_
    refine sx ?_
    refine s_if rfl (fun t2 => ?_) (fun t2 => ?_)
    · have e : doesM m.d key o = none := by unfold doesM; rw [if_pos (h1.2 ((cmp_eq _ _).1 t2)), if_neg t1]
      rw [e]
      refine sx ?_
      exact s_ret2 rfl rfl rfl ⟨none, 0, rfl, RBy.nil, rfl⟩
    · have e : doesM m.d key o = o := by unfold doesM; rw [if_neg (fun g => t2 ((cmp_eq _ _).2 (h1.1 g)))]
      rw [e]
      refine sx ?_
      exact s_ret2 rfl rfl rfl ⟨va, vc, rfl, hv, rfl⟩
  refine sx ?_
  refine s_if rfl (fun t4 => ?_) (fun t4 => ?_)
  · have h1 : hasB (saidR m.d) key = true ↔ cmp m.lo key ≤ 0 ∧ cmp key m.hi < 0 := has_cut t4
    refine sx ?_
    refine s_callV rfl (compare_s hlo.tl hk.tl) ?_
    refine sx ?_
    refine s_lif rfl (fun t5 => ?_) (fun t5 => ?_)
    · refine sx ?_
      refine s_callV rfl (compare_s hk.tl hhi.tl) ?_
      refine sx ?_
      refine s_if rfl (fun t6 => ?_) (fun t6 => ?_)
      · have e : doesM m.d key o = none := by unfold doesM; rw [if_pos (h1.2 ⟨t5, t6⟩), if_neg t1]
        rw [e]
        refine sx ?_
        exact s_ret2 rfl rfl rfl ⟨none, 0, rfl, RBy.nil, rfl⟩
      · have e : doesM m.d key o = o := by unfold doesM; rw [if_neg (fun g => t6 (h1.1 g).2)]
        rw [e]
        refine sx ?_
        exact s_ret2 rfl rfl rfl ⟨va, vc, rfl, hv, rfl⟩
    · have e : doesM m.d key o = o := by unfold doesM; rw [if_neg (fun g => t5 (h1.1 g).1)]
      rw [e]
      refine sx ?_
      exact s_ret2 rfl rfl rfl ⟨va, vc, rfl, hv, rfl⟩
  · have e : doesM m.d key o = o := by
      have : saidR m.d = t30 := by unfold saidR; rw [if_neg (fun g => g.elim t1 t3), if_neg t4]
      unfold doesM
      rw [this, if_neg (has_em emR_t30)]
    rw [e]
    refine sx ?_
    exact s_ret2 rfl rfl rfl ⟨va, vc, rfl, hv, rfl⟩
structure PlI where
  i : Nat
  va : Option Addr
  vc : Nat
set_option maxHeartbeats 2000000 in
theorem plain_s {a b ka : Option Addr} {c d kc : Nat} {es : List KV} {ms : List Mg} {key : Bs} (hx : RSl w0 H a c es) (hr : ∀ e ∈ es, REe w0 H e) (hm : RMs w0 H b d ms) (hk : RBy w0 H ka kc key) (hl : es.length ≤ 549755813888 ∧ ms.length ≤ 549755813888) :
    FnS Tryz.prog w0 H 12 #[.slice a es.length c, .slice b ms.length d, .slice ka key.length kc] (OpR w0 H (appO (getE es key) (getM (ms.map Mg.d) key))) := by
  refine fns_enter Tryz.func12 rfl rfl rfl ?_
  have hms := hm.sl
  refine sx ?_
  refine s_loop (fun q : PlI => [(0, .slice a es.length c), (1, .slice b ms.length d), (2, .slice ka key.length kc), (8, .bool (getE (es.take q.i) key).isSome), (9, .slice q.va ((getE (es.take q.i) key).getD []).length q.vc), (10, .int .i64 q.i)]) (fun _ => H) (fun q => q.i ≤ es.length ∧ RBy w0 H q.va q.vc ((getE (es.take q.i) key).getD [])) (fun q => es.length - q.i) ⟨0, none, 0⟩ ⟨Nat.zero_le _, RBy.nil⟩ ?_
  rintro ⟨i, va, vc⟩ ⟨h1, h2⟩
  simp only at h1 h2 ⊢
  refine sx ?_
  refine s_if rfl (fun t1 => ?_) (fun t1 => ?_)
  · obtain ⟨e, he⟩ := get_lt es i (by omega)
    have her := hr e (List.mem_of_getElem? he)
    have hek := her.k
    have hev := her.v
    have hsn := getE_snoc (es.take i) e key
    rw [← snocT he] at hsn
    refine sx ?_
    refine s_callV rfl (compare_s hek hk) ?_
    refine sx ?_
    refine s_if rfl (fun t2 => ?_) (fun t2 => ?_)
    · rw [if_pos ((cmp_eq _ _).1 t2)] at hsn
      refine sx ?_
      exact s_again ⟨i + 1, e.va, e.vc⟩ ⟨by simp only; omega, by simp only; rw [hsn]; exact hev⟩ (by simp only; omega) (hs := by simp only; rw [hsn]; repeat (first | exact trivial | refine And.intro (by first | exact rfl | exact congrArg some (ci (by omega))) ?_))
    · rw [if_neg (fun g => t2 ((cmp_eq _ _).2 g))] at hsn
      refine sx ?_
      exact s_again ⟨i + 1, va, vc⟩ ⟨by simp only; omega, by simp only; rw [hsn]; exact h2⟩ (by simp only; omega) (hs := by simp only; rw [hsn]; repeat (first | exact trivial | refine And.intro (by first | exact rfl | exact congrArg some (ci (by omega))) ?_))
  obtain rfl : i = es.length := by omega
  rw [List.take_length] at h2 ⊢
  refine sx ?_
  refine s_loop (fun q : PlI => [(1, .slice b ms.length d), (2, .slice ka key.length kc), (8, .bool (appO (getE es key) (getM ((ms.map Mg.d).take q.i) key)).isSome), (9, .slice q.va ((appO (getE es key) (getM ((ms.map Mg.d).take q.i) key)).getD []).length q.vc), (11, .int .i64 q.i)]) (fun _ => H) (fun q => q.i ≤ ms.length ∧ RBy w0 H q.va q.vc ((appO (getE es key) (getM ((ms.map Mg.d).take q.i) key)).getD [])) (fun q => ms.length - q.i) ⟨0, va, vc⟩ ⟨Nat.zero_le _, h2⟩ ?_
  clear h2 t1
  rintro ⟨i, va, vc⟩ ⟨h1, h2⟩
  simp only at h1 h2 ⊢
  refine sx ?_
  refine s_if rfl (fun t1 => ?_) (fun t1 => ?_)
  · obtain ⟨m, hmi⟩ := get_lt ms i (by omega)
    have hrm := hm.el m (List.mem_of_getElem? hmi)
    have hsn := app_snoc ((ms.map Mg.d).take i) m.d key (getE es key)
    rw [← snocT (get_map (f := Mg.d) hmi)] at hsn
    have hsn : appO (getE es key) (getM ((ms.map Mg.d).take (i + 1)) key) = doesM m.d key (appO (getE es key) (getM ((ms.map Mg.d).take i) key)) := hsn
    refine sx ?_
    refine s_call rfl (does_s (m := m) (o := appO (getE es key) (getM ((ms.map Mg.d).take i) key)) hrm hk h2) ?_
    rintro _ H1 ⟨wa, wc, rfl, hw, e1⟩
    obtain rfl : H = H1 := e1.symm
    refine ⟨chk_seq, ?_⟩
    rw [← hsn] at hw ⊢
    refine sx ?_
    exact s_again ⟨i + 1, wa, wc⟩ ⟨by simp only; omega, hw⟩ (by simp only; omega)
  · obtain rfl : i = ms.length := by omega
    rw [List.take_of_length_le (by simp)] at h2 ⊢
    refine sx ?_
    exact s_ret2 rfl rfl rfl ⟨va, vc, rfl, h2, rfl⟩
set_option maxHeartbeats 2000000 in
theorem has_s7 {a ka : Option Addr} {c kc : Nat} {es : List KV} {key : Bs} (hx : RSl w0 H a c es) (hr : ∀ e ∈ es, REe w0 H e) (hk : RBy w0 H ka kc key) (hl : es.length ≤ 549755813888) :
    FnS Tryz.prog w0 H 13 #[.slice a es.length c, .slice ka key.length kc] (fun v H' => ∃ wa wc, v = .tuple #[.int .i64 (cntE es key : Nat), .slice wa ((getE es key).getD []).length wc] ∧ RBy w0 H wa wc ((getE es key).getD []) ∧ H' = H) := by
  refine fns_enter Tryz.func13 rfl rfl rfl ?_
  refine sx ?_
  refine s_loop (fun q : PlI => [(0, .slice a es.length c), (1, .slice ka key.length kc), (6, .int .i64 (cntE (es.take q.i) key : Nat)), (7, .slice q.va ((getE (es.take q.i) key).getD []).length q.vc), (8, .int .i64 q.i)]) (fun _ => H) (fun q => q.i ≤ es.length ∧ RBy w0 H q.va q.vc ((getE (es.take q.i) key).getD [])) (fun q => es.length - q.i) ⟨0, none, 0⟩ ⟨Nat.zero_le _, RBy.nil⟩ ?_
  rintro ⟨i, va, vc⟩ ⟨h1, h2⟩
  simp only at h1 h2 ⊢
  have hle := cntE_le (es.take i) key
  rw [List.length_take] at hle
  refine sx ?_
  refine s_if rfl (fun t1 => ?_) (fun t1 => ?_)
  · obtain ⟨e, he⟩ := get_lt es i (by omega)
    have her := hr e (List.mem_of_getElem? he)
    have hek := her.k
    have hev := her.v
    have hsn := getE_snoc (es.take i) e key
    have hcn := cntE_snoc (es.take i) e key
    rw [← snocT he] at hsn hcn
    refine sx ?_
    refine s_callV rfl (compare_s hek hk) ?_
    refine sx ?_
    refine s_if rfl (fun t2 => ?_) (fun t2 => ?_)
    · rw [if_pos ((cmp_eq _ _).1 t2)] at hsn hcn
      refine sx ?_
      exact s_again ⟨i + 1, e.va, e.vc⟩ ⟨by simp only; omega, by simp only; rw [hsn]; exact hev⟩ (by simp only; omega) (hs := by simp only; rw [hsn, hcn]; repeat (first | exact trivial | refine And.intro (by first | exact rfl | exact congrArg some (ci (by omega))) ?_))
    · rw [if_neg (fun g => t2 ((cmp_eq _ _).2 g))] at hsn hcn
      refine sx ?_
      exact s_again ⟨i + 1, va, vc⟩ ⟨by simp only; omega, by simp only; rw [hsn]; exact h2⟩ (by simp only; omega) (hs := by simp only; rw [hsn, hcn]; repeat (first | exact trivial | refine And.intro (by first | exact rfl | exact congrArg some (ci (by omega))) ?_))
  obtain rfl : i = es.length := by omega
  rw [List.take_length] at h2 ⊢
  refine sx ?_
  exact s_ret2 rfl rfl rfl ⟨va, vc, rfl, h2, rfl⟩
def sumE (l : List KV) : Nat := (l.map fun e => 6 + e.k.length + e.v.length).sum
theorem sumE_snoc (l : List KV) (e : KV) : sumE (l ++ [e]) = sumE l + (6 + e.k.length + e.v.length) := by simp [sumE]
theorem sumE_len (l : List KV) : 6 * l.length ≤ sumE l := by
  induction l with
  | nil => simp [sumE]
  | cons e l ih => simp only [sumE, List.map_cons, List.sum_cons, List.length_cons] at *; omega
set_option maxHeartbeats 1000000 in
theorem entries_s7 {a : Option Addr} {c : Nat} {es : List KV} (hx : RSl w0 H a c es) (hy : ∀ e ∈ es, e.k.length ≤ 140737488355328 ∧ e.v.length ≤ 140737488355328) :
    FnS Tryz.prog w0 H 8 #[.slice a es.length c] (fun v H' => ∃ x : Int, v = .int .i64 x ∧ (0 ≤ x ∧ x ≤ 1125899906842624) ∧ (x ≤ 2147483647 → x = (sumE es : Nat)) ∧ H' = H) := by
  refine fns_enter Tryz.func8 rfl rfl rfl ?_
  refine s_kn (Kn.sl hx) fun l1 => ?_
  simp only [maxLen] at l1
  refine sx ?_
  refine s_loop (fun i : Nat × Int => [(0, .slice a es.length c), (3, .int .i64 i.2), (4, .int .i64 i.1)]) (fun _ => H) (fun i => i.1 ≤ es.length ∧ (0 ≤ i.2 ∧ i.2 ≤ 1125899906842624) ∧ (i.2 ≤ 2147483647 → i.2 = (sumE (es.take i.1) : Nat))) (fun i => es.length - i.1) (0, 0) ⟨Nat.zero_le _, by simp only; omega, fun _ => by simp [sumE]⟩ ?_
  rintro ⟨i, x⟩ ⟨h1, h2, h3⟩
  simp only at h1 h2 h3 ⊢
  refine sx ?_
  refine s_lif rfl (fun t1 => ?_) (fun t1 => ?_)
  · obtain ⟨e, he⟩ := get_lt es i (by omega)
    obtain ⟨y1, y2⟩ := hy e (List.mem_of_getElem? he)
    have hst := sumE_snoc (es.take i) e
    rw [← snocT he] at hst
    refine sx ?_
    refine s_if rfl (fun t2 => ?_) (fun t2 => ?_)
    · refine sx ?_; refine s_dr (.one true 0 (.one true 1 (.one true 2 (.one true 3 (.one true 4 (.one true 5 (.one true 6 (.one true 7 (.one true 8 (.one true 9 (.one true 10 (.one true 11 (.one true 12 (.one true 13 (.one true 14 (.one true 15 (.one true 16 .nil))))))))))))))))) mixed (by kernel_rfl) ?_; refine sx ?_
      refine s_again (i + 1, x + 6 + e.k.length + e.v.length) ⟨by simp only; omega, by simp only; omega, fun _ => ?_⟩ (by simp only; omega)
      have := h3 t2
      simp only
      omega
    · refine sx ?_
      exact s_ret1 rfl rfl ⟨x, rfl, h2, fun h => absurd h t2, rfl⟩
  · obtain rfl : i = es.length := by omega
    rw [List.take_length] at h3
    refine sx ?_
    exact s_ret1 rfl rfl ⟨x, rfl, h2, h3, rfl⟩
end Go.Sx
