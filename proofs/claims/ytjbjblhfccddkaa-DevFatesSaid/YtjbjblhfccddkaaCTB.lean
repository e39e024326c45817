/- Part of a proof: the device made, a block found, a change, what a block shows. -/
import Derived.Test.YtjbjblhfccddkaaCTA
namespace Go.Sx
open Go Go.Proofs
set_option maxRecDepth 10000
variable {w0 : World} {H : List Ck}
theorem ic {k : IntKind} {a b : Int} (h : a = b) : Value.int k a = Value.int k b := congrArg _ h
/-- New. -/
def szOk (size : Int) : Prop := size = 512 ∨ size = 1024 ∨ size = 2048 ∨ size = 4096
instance : DecidablePred szOk := fun _ => by unfold szOk; infer_instance
abbrev c0 (b m : Nat) (size n : Nat) : Cd := ⟨b, m, size, n, [], false, 0, 0, false, 0, 0⟩
set_option maxHeartbeats 1000000 in
theorem new_s {size n : Int} (hs : I64 size) (hn : I64 n) : FnS Try.prog w0 H 25 #[.int .i64 size, .int .i64 n] (fun v K =>
    (¬ (szOk size ∧ 16 ≤ n ∧ n ≤ 65536) ∧ v = .tuple #[.pointer none, .int .i64 1] ∧ K = H) ∨
    (szOk size ∧ 16 ≤ n ∧ n ≤ 65536 ∧ ∃ b m, v = .tuple #[.pointer (some ⟨b, 0, none⟩), .int .i64 0] ∧ K = (c0 b m size.toNat n.toNat).on 0 H)) := by
  refine fns_enter Try.func25 rfl rfl rfl ?_
  refine sx ?_
  refine s_cut (fun _ : Unit => [(0, .int .i64 size), (1, .int .i64 n), (7, .bool (decide (szOk size)))]) (fun _ => H) (fun _ => True) ?_ fun _ _ => ?_
  · refine s_if rfl (fun h1 => ?_) (fun h1 => ?_)
    · refine sx ?_
      refine s_rwQ (t := 7) (v' := .bool (decide (szOk size))) rfl (by simp [szOk, h1]) ?_
      exact s_mid () trivial
    refine sx ?_
    refine s_if rfl (fun h2 => ?_) (fun h2 => ?_)
    · refine sx ?_
      refine s_rwQ (t := 7) (v' := .bool (decide (szOk size))) rfl (by simp [szOk, h2]) ?_
      exact s_mid () trivial
    refine sx ?_
    refine s_if rfl (fun h3 => ?_) (fun h3 => ?_)
    · refine sx ?_
      refine s_rwQ (t := 7) (v' := .bool (decide (szOk size))) rfl (by simp [szOk, h3]) ?_
      exact s_mid () trivial
    refine sx ?_
    refine s_rwQ (t := 7) (v' := .bool (decide (szOk size))) rfl (by simp [szOk, h1, h2, h3]) ?_
    exact s_mid () trivial
  refine s_if rfl (fun hz => ?_) (fun hz => ?_)
  rotate_left
  · refine sx ?_
    exact s_ret2 rfl rfl rfl (.inl ⟨fun h => hz h.1, rfl, rfl⟩)
  refine sx ?_
  refine s_lif rfl (fun h1 => ?_) (fun h1 => ?_)
  · refine sx ?_
    exact s_ret2 rfl rfl rfl (.inl ⟨fun h => by omega, rfl, rfl⟩)
  refine sx ?_
  refine s_if rfl (fun h2 => ?_) (fun h2 => ?_)
  · refine sx ?_
    exact s_ret2 rfl rfl rfl (.inl ⟨fun h => by omega, rfl, rfl⟩)
  refine sx ?_
  refine s_kmake fun m => ?_
  refine sx ?_
  refine s_boxA rfl fun b => ?_
  refine sx ?_
  refine s_ret2 rfl rfl rfl (.inr ⟨hz, by omega, by omega, b, m, rfl, rfl⟩) ?_
  have hz0 : 0 ≤ size := by unfold szOk at hz; omega
  have e : (c0 b m size.toNat n.toNat).cells 0 = [.int .i32 0, .int .u32 0, .int .i64 size, .int .i64 n, .map (some m), .bool false, .int .i64 0, .int .i64 0, .bool false, .int .u64 0, .int .u64 0] := by
    simp only [Cd.cells, Int.toNat_of_nonneg hz0, Int.toNat_of_nonneg (show 0 ≤ n by omega)]
  show Ent _ (.hb b 74 ((c0 b m size.toNat n.toNat).cells 0) :: kmp m [] :: stars oBk [] :: H)
  rw [e]
  exact Ent.head (Ent.head stars_nil)
theorem c0_ok {b m size n : Nat} (hs : szOk size) (hn : n ≤ 65536) {N : Nat} : (c0 b m size n).Ok N :=
  ⟨List.nodup_nil, fun _ h => by simp at h, fun _ h => by simp at h, by simp, ⟨by simp, by simp⟩, by unfold szOk at hs; simp; omega, hn⟩
/-- A block is found. -/
abbrev FndR (c : Cd) (N : Nat) (lk n : Int) (H : List Ck) : Value → List Ck → Prop := fun v K =>
  (c.ad.err n ≠ 0 ∧ v = .tuple #[.pointer none, .int .i64 (c.ad.err n)] ∧ K = c.on lk H) ∨
  (c.ad.err n = 0 ∧ ∃ (es : List Be) (i : Nat) (e : Be), es[i]? = some e ∧ e.n = n ∧ ({ c with es := es } : Cd).Ok N ∧ ({ c with es := es } : Cd).ad = c.ad ∧ v = .tuple #[.pointer (some ⟨e.k, 0, none⟩), .int .i64 0] ∧ K = ({ c with es := es } : Cd).on lk H)
theorem Cd.Ok.snoc {N : Nat} {c : Cd} {n : Int} {k : Nat} (hc : c.Ok N) (h : c.es.find? (fun q => q.n == n) = none) (hn : 0 ≤ n ∧ n < c.n) :
    ({ c with es := c.es ++ [⟨n, k, ⟨⟨none, 0, []⟩, false, none, 0, []⟩⟩] } : Cd).Ok N ∧ ({ c with es := c.es ++ [⟨n, k, ⟨⟨none, 0, []⟩, false, none, 0, []⟩⟩] } : Cd).ad = c.ad := by
  have hno : ∀ e ∈ c.es, ¬ e.n = n := fun e he => by simpa using List.find?_eq_none.1 h e he
  refine ⟨⟨?_, ?_, ?_, hc.arm, hc.how, hc.sz, hc.nn⟩, ?_⟩
  · simp only [List.map_append, List.map_cons, List.map_nil]
    rw [List.nodup_append]
    refine ⟨hc.nodup, by simp, fun a ha b hb => ?_⟩
    obtain ⟨e, he, rfl⟩ := List.mem_map.1 ha
    simp at hb
    subst hb
    exact hno e he
  · intro e he
    rcases List.mem_append.1 he with h1 | h1
    · exact hc.dom e h1
    · simp at h1; subst h1; exact hn
  · intro e he
    rcases List.mem_append.1 he with h1 | h1
    · exact hc.bk e h1
    · simp at h1; subst h1
      exact ⟨Nat.zero_le _, fun _ => ⟨rfl, rfl⟩, fun h => absurd rfl h, fun _ h => by simp at h⟩
  · simp only [Cd.ad]
    congr 1
    funext m
    simp only [atE, List.find?_append]
    cases h2 : c.es.find? (fun q => q.n == m) with
    | some e => rfl
    | none =>
      by_cases hm : n = m
      · simp [hm, Bk.ab]
      · have : (n == m) = false := by simp [hm]
        simp [this]
set_option maxHeartbeats 1000000 in
theorem find_s {c : Cd} {N : Nat} {lk n : Int} (hc : c.Ok N) (hn : I64 n) : FnS Try.prog w0 (c.on lk H) 29 #[.pointer (some ⟨c.b, 0, none⟩), .int .i64 n] (FndR c N lk n H) := by
  have hnn := hc.nn
  refine fns_enter Try.func29 rfl rfl rfl ?_
  refine sx ?_
  refine s_cond rfl (fun t1 => ?_) (fun t1 => ?_)
  · refine sx ?_
    have e : c.ad.err n = 12 := by simp [Ad.err, Cd.ad, t1]
    exact s_ret2 rfl rfl rfl (.inl ⟨by rw [e]; decide, by rw [e], rfl⟩)
  refine sx ?_
  refine s_lif rfl (fun h1 => ?_) (fun h1 => ?_)
  · refine sx ?_
    have e : c.ad.err n = 11 := by simp [Ad.err, Cd.ad, t1, h1]
    exact s_ret2 rfl rfl rfl (.inl ⟨by rw [e]; decide, by rw [e], rfl⟩)
  refine sx ?_
  refine s_if rfl (fun h2 => ?_) (fun h2 => ?_)
  · refine sx ?_
    have e : c.ad.err n = 11 := by simp [Ad.err, Cd.ad, t1, h2]
    exact s_ret2 rfl rfl rfl (.inl ⟨by rw [e]; decide, by rw [e], rfl⟩)
  have e0 : c.ad.err n = 0 := by simp [Ad.err, Cd.ad, t1]; omega
  refine sx ?_
  refine s_lkp c.kvs rfl rfl (i64_wf hn) ?_
  rw [show aget c.kvs n = _ from aget_kvs c.es n]
  cases hf : c.es.find? (fun q => q.n == n) with
  | some e =>
    obtain ⟨i, hi⟩ := List.getElem?_of_mem (List.mem_of_find?_eq_some hf)
    have hen : e.n = n := by simpa using List.find?_some hf
    refine sx ?_
    exact s_ret2 rfl rfl rfl (.inr ⟨e0, c.es, i, e, hi, hen, hc, rfl, rfl, rfl⟩)
  | none =>
    refine sx ?_
    refine s_boxA rfl fun k => ?_
    refine sx ?_
    refine s_mput rfl rfl rfl (i64_wf hn) (by exact at_) ?_
    refine sx ?_
    obtain ⟨o1, o2⟩ := hc.snoc (k := k) hf ⟨by omega, by omega⟩
    refine s_ret2 rfl rfl rfl (.inr ⟨e0, c.es ++ [⟨n, k, ⟨⟨none, 0, []⟩, false, none, 0, []⟩⟩], c.es.length, _, List.getElem?_concat_length .., rfl, o1, o2, rfl, rfl⟩) ?_
    rw [show aput c.kvs n (.pointer (some ⟨k, 0, none⟩)) = (c.es ++ [(⟨n, k, ⟨⟨none, 0, []⟩, false, none, 0, []⟩⟩ : Be)]).map Be.kv from aput_kvs hf]
    show Ent _ (.hb c.b 74 (c.cells lk) :: kmp c.m ((c.es ++ [(⟨n, k, ⟨⟨none, 0, []⟩, false, none, 0, []⟩⟩ : Be)]).map Be.kv) :: stars oBk (c.es ++ [(⟨n, k, ⟨⟨none, 0, []⟩, false, none, 0, []⟩⟩ : Be)]) :: H)
    refine Ent.cons (by exact rmq) (Ent.cons (by exact rmq) ?_)
    exact (show Ent _ (oBk ⟨n, k, ⟨⟨none, 0, []⟩, false, none, 0, []⟩⟩ ++ stars oBk c.es :: H) from Ent.head (Ent.addNil (Ent.addNil (Ent.addStar Ent.refl)))).trans stars_snoc
/-! ### A change -/
def Cd.chg (c : Cd) : Cd := if c.armed = 0 then c else if c.armed - 1 > 0 then { c with armed := c.armed - 1 } else if c.how = 1 then { c with armed := c.armed - 1 } else { c with armed := c.armed - 1, off := true }
theorem Cd.chg_ad (c : Cd) : c.chg.ad = c.ad.chg := by
  unfold Cd.chg Ad.chg
  by_cases h1 : c.armed = 0
  · rw [if_pos h1, if_pos (show c.ad.armed = 0 from h1)]
  rw [if_neg h1, if_neg (show ¬ c.ad.armed = 0 from h1)]
  by_cases h2 : c.armed - 1 > 0
  · rw [if_pos h2, if_pos (show c.ad.armed - 1 > 0 from h2)]; rfl
  rw [if_neg h2, if_neg (show ¬ c.ad.armed - 1 > 0 from h2)]
  by_cases h3 : c.how = 1
  · rw [if_pos h3, if_pos (show c.ad.how = 1 from h3)]; rfl
  · rw [if_neg h3, if_neg (show ¬ c.ad.how = 1 from h3)]; rfl
theorem Cd.chg_es (c : Cd) : c.chg.es = c.es ∧ c.chg.b = c.b ∧ c.chg.size = c.size ∧ c.chg.n = c.n ∧ c.chg.m = c.m := by
  unfold Cd.chg
  split
  · exact ⟨rfl, rfl, rfl, rfl, rfl⟩
  split
  · exact ⟨rfl, rfl, rfl, rfl, rfl⟩
  split <;> exact ⟨rfl, rfl, rfl, rfl, rfl⟩
theorem Cd.chg_ok {c : Cd} {N : Nat} (hc : c.Ok N) : c.chg.Ok N := by
  have ha := hc.arm
  unfold Cd.chg
  split
  · exact hc
  split
  · exact ⟨hc.nodup, hc.dom, hc.bk, ⟨by show 0 ≤ c.armed - 1; omega, by show c.armed - 1 ≤ _; omega⟩, hc.how, hc.sz, hc.nn⟩
  split <;> exact ⟨hc.nodup, hc.dom, hc.bk, ⟨by show 0 ≤ c.armed - 1; omega, by show c.armed - 1 ≤ _; omega⟩, hc.how, hc.sz, hc.nn⟩
set_option maxHeartbeats 1000000 in
theorem change_s {c : Cd} {N : Nat} {lk : Int} (hc : c.Ok N) : FnS Try.prog w0 (c.on lk H) 30 #[.pointer (some ⟨c.b, 0, none⟩)] (fun v K => v = .tuple #[.bool c.ad.cis, .int .i64 c.ad.cer] ∧ K = c.chg.on lk H) := by
  have ha := hc.arm
  refine fns_enter Try.func30 rfl rfl rfl ?_
  refine sx ?_
  refine s_if rfl (fun h1 => ?_) (fun h1 => ?_)
  · refine sx ?_
    have e1 : c.ad.cis = true ∧ c.ad.cer = 0 ∧ c.chg = c := ⟨if_pos (show c.ad.armed = 0 from h1), if_pos (show c.ad.armed = 0 from h1), if_pos h1⟩
    rw [e1.1, e1.2.1, e1.2.2]
    exact s_ret2 rfl rfl rfl ⟨rfl, rfl⟩
  refine sx ?_
  refine s_if rfl (fun h2 => ?_) (fun h2 => ?_)
  · refine sx ?_
    have e1 : c.ad.cis = true ∧ c.ad.cer = 0 ∧ c.chg = { c with armed := c.armed - 1 } := by 
      have a1 : ¬ c.ad.armed = 0 := h1
      have a2 : c.ad.armed - 1 > 0 := h2
      exact ⟨(if_neg a1).trans (if_pos a2), (if_neg a1).trans (if_pos a2), by unfold Cd.chg; rw [if_neg h1, if_pos (show c.armed - 1 > 0 from h2)]⟩
    rw [e1.1, e1.2.1, e1.2.2]
    exact s_ret2 rfl rfl rfl ⟨rfl, rfl⟩
  refine sx ?_
  refine s_if rfl (fun h3 => ?_) (fun h3 => ?_)
  · refine sx ?_
    have e1 : c.ad.cis = c.done ∧ c.ad.cer = 13 ∧ c.chg = { c with armed := c.armed - 1 } := by
      have a1 : ¬ c.ad.armed = 0 := h1
      have a2 : ¬ c.ad.armed - 1 > 0 := h2
      have a3 : c.ad.how = 1 := h3
      exact ⟨(if_neg a1).trans (if_neg a2), (if_neg a1).trans ((if_neg a2).trans (if_pos a3)), by unfold Cd.chg; rw [if_neg h1, if_neg (show ¬ c.armed - 1 > 0 from h2), if_pos h3]⟩
    rw [e1.1, e1.2.1, e1.2.2]
    exact s_ret2 rfl rfl rfl ⟨rfl, rfl⟩
  refine sx ?_
  have e1 : c.ad.cis = c.done ∧ c.ad.cer = 12 ∧ c.chg = { c with armed := c.armed - 1, off := true } := by
    have a1 : ¬ c.ad.armed = 0 := h1
    have a2 : ¬ c.ad.armed - 1 > 0 := h2
    have a3 : ¬ c.ad.how = 1 := h3
    exact ⟨(if_neg a1).trans (if_neg a2), (if_neg a1).trans ((if_neg a2).trans (if_neg a3)), by unfold Cd.chg; rw [if_neg h1, if_neg (show ¬ c.armed - 1 > 0 from h2), if_neg h3]⟩
  rw [e1.1, e1.2.1, e1.2.2]
  exact s_ret2 rfl rfl rfl ⟨rfl, rfl⟩
end Go.Sx
