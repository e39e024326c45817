/- Part of a proof: the law's own questions of entries: find, first, are two lists one. -/
import Derived.Test.YtpnhoafmlhlfgaaCMR
namespace Go.Sx
open Go Go.Proofs
set_option maxRecDepth 10000
variable {w0 : World} {H : List Ck}
theorem getE_at {es : List KV} {i : Nat} {e : KV} (h : es[i]? = some e) (hn : ∀ x ∈ es.drop (i + 1), x.k ≠ e.k) : getE es e.k = some e.v := by
  have hs : es = es.take i ++ e :: es.drop (i + 1) := by rw [← dropG h, List.take_append_drop]
  have hd : (es.drop (i + 1)).filter (kf e.k) = [] := List.filter_eq_nil_iff.2 fun x hx => by simp only [kf, decide_eq_true_eq]; exact hn x hx
  unfold getE
  rw [hs, List.filter_append, List.filter_cons, if_pos (by simp [kf]), hd]
  simp
abbrev FndR (w0 : World) (g : Option Bs) (H : List Ck) : Value → List Ck → Prop := fun v H' => ∃ va vc, v = .tuple #[.bool g.isSome, .slice va (g.getD []).length vc] ∧ RBy w0 H va vc (g.getD []) ∧ H' = H
theorem gfind_s {a a' : Option Addr} {c c' : Nat} {es : List KV} {key : Bs} (hx : RSl w0 H a c es) (hr : ∀ e ∈ es, REe w0 H e) (hk : RBy w0 H a' c' key) :
    FnS Try.prog w0 H 14 #[.slice a es.length c, .slice a' key.length c'] (FndR w0 (getE es key) H) := by
  refine fns_enter Try.func14 rfl rfl rfl ?_
  refine s_kn (Kn.sl hx) fun ⟨l1, l2⟩ => ?_
  simp only [maxLen] at l2
  refine sx ?_
  refine s_loop (fun k : Nat => [(0, .slice a es.length c), (1, .slice a' key.length c'), (6, .int .i64 ((k : Int) - 1))]) (fun _ => H) (fun k => k ≤ es.length ∧ ∀ x ∈ es.drop k, x.k ≠ key) (fun k => k) es.length ⟨Nat.le_refl _, by simp⟩ ?_
  rintro k ⟨h1, h2⟩
  refine sx ?_
  refine s_if rfl (fun t1 => ?_) (fun t1 => ?_)
  · obtain ⟨j, rfl⟩ : ∃ j, k = j + 1 := ⟨k - 1, by omega⟩
    obtain ⟨e, he⟩ := get_lt es j (by omega)
    have her := hr e (List.mem_of_getElem? he)
    have hek := her.k
    have hev := her.v
    refine s_rwC (t := 6) (v' := .int .i64 (j : Int)) rfl (by congr 1; omega) ?_
    refine sx ?_
    refine s_callV rfl (compare_s (xs := e.k) (ys := key) (by exact rby) (by exact rby)) ?_
    refine sx ?_
    refine s_if rfl (fun t2 => ?_) (fun t2 => ?_)
    · obtain rfl : e.k = key := (cmp_eq _ _).1 t2
      rw [getE_at he h2]
      refine sx ?_; refine s_dr (.one true 0 (.one true 1 (.one true 2 (.one true 3 (.one true 4 (.one true 5 (.one true 6 .nil))))))) mixed (by kernel_rfl) ?_; refine sx ?_
      exact s_ret2 rfl rfl rfl ⟨e.va, e.vc, rfl, hev, rfl⟩
    · refine sx ?_
      refine s_again j ⟨by omega, ?_⟩ (by omega)
      intro x hxd
      rw [dropG he] at hxd
      rcases List.mem_cons.1 hxd with rfl | hxd
      · exact fun g => t2 ((cmp_eq _ _).2 g)
      · exact h2 x hxd
  · obtain rfl : k = 0 := by omega
    rw [getE_none.2 (by simpa using h2)]
    refine sx ?_
    exact s_ret2 rfl rfl rfl ⟨none, 0, rfl, RBy.nil, rfl⟩
theorem gsameE_s {a a' : Option Addr} {c c' : Nat} {xs ys : List KV} (hx : RSl w0 H a c xs) (hxr : ∀ e ∈ xs, REe w0 H e) (hy : RSl w0 H a' c' ys) (hyr : ∀ e ∈ ys, REe w0 H e) : FnV Try.prog w0 H 15 #[.slice a xs.length c, .slice a' ys.length c'] (.bool (decide (xs.map KV.p = ys.map KV.p))) := by
  refine fns_enter Try.func15 rfl rfl rfl ?_
  refine s_kn (Kn.sl hx) fun l1 => s_kn (Kn.sl hy) fun l2 => ?_
  simp only [maxLen] at l1 l2
  refine sx ?_
  refine s_ifn rfl (fun t1 => ?_) (fun t1 => ?_)
  · refine sx ?_
    refine s_ret1 rfl rfl ⟨?_, rfl⟩
    rw [decide_eq_false (fun e => t1 (by have := congrArg List.length e; simp only [List.length_map] at this; rw [this]))]
  have hl : xs.length = ys.length := by omega
  refine sx ?_
  refine s_loop (fun i : Nat => [(0, .slice a xs.length c), (1, .slice a' ys.length c'), (5, .int .i64 i)]) (fun _ => H) (fun i => i ≤ xs.length ∧ (xs.map KV.p).take i = (ys.map KV.p).take i) (fun i => xs.length - i) 0 ⟨Nat.zero_le _, rfl⟩ ?_
  rintro i ⟨hi, he⟩
  refine sx ?_
  refine s_if rfl (fun t2 => ?_) (fun t2 => ?_)
  · obtain ⟨x, hxi⟩ := get_lt xs i (by omega)
    obtain ⟨y, hyi⟩ := get_lt ys i (by omega)
    have hx0 := hxr x (List.mem_of_getElem? hxi)
    have hy0 := hyr y (List.mem_of_getElem? hyi)
    have b1 := hx0.k
    have b2 := hx0.v
    have b3 := hy0.k
    have b4 := hy0.v
    have hbad : x.p ≠ y.p → xs.map KV.p ≠ ys.map KV.p := fun h e => by
      have h1 := get_map (f := KV.p) hxi
      rw [e, get_map (f := KV.p) hyi] at h1
      exact h (Option.some.inj h1).symm
    refine sx ?_; refine s_dr (.one true 0 (.one true 1 (.one true 2 (.one true 3 (.one true 4 (.one true 5 (.one true 6 (.one true 7 (.one true 8 (.one true 9 (.one true 10 (.one true 11 (.one true 12 (.one true 13 (.one true 14 (.one true 15 (.one true 16 (.one true 17 (.one true 18 (.one true 19 (.one true 20 (.one true 21 (.one true 22 (.one true 23 (.one true 24 (.one true 25 (.one true 26 (.one true 27 .nil)))))))))))))))))))))))))))) mixed (by kernel_rfl) ?_; refine sx ?_
    refine s_lifn rfl (fun t3 => ?_) (fun t3 => ?_)
    · refine sx ?_
      refine s_ret1 rfl rfl ⟨?_, rfl⟩
      rw [decide_eq_false (hbad fun e => t3 (congrArg Prod.fst e))]
    refine sx ?_
    refine s_ifn rfl (fun t4 => ?_) (fun t4 => ?_)
    · refine sx ?_
      refine s_ret1 rfl rfl ⟨?_, rfl⟩
      rw [decide_eq_false (hbad fun e => t4 (congrArg Prod.snd e))]
    · refine sx ?_
      refine s_again (i + 1) ⟨by omega, ?_⟩ (by omega)
      have e : x.p = y.p := by show (x.k, x.v) = (y.k, y.v); rw [t3, t4]
      rw [snocT (get_map (f := KV.p) hxi), snocT (get_map (f := KV.p) hyi), he, e]
  · obtain rfl : i = xs.length := by omega
    rw [List.take_of_length_le (by simp), List.take_of_length_le (by simp; omega)] at he
    refine sx ?_
    exact s_ret1 rfl rfl ⟨by rw [decide_eq_true he], rfl⟩
def sumG (l : List KV) : Nat := (l.map fun e => 6 + e.k.length + e.v.length).sum
theorem sumG_snoc (l : List KV) (e : KV) : sumG (l ++ [e]) = sumG l + (6 + e.k.length + e.v.length) := by simp [sumG]
theorem sumG_len (l : List KV) : 6 * l.length ≤ sumG l := by
  induction l with
  | nil => simp [sumG]
  | cons e l ih => simp only [sumG, List.map_cons, List.sum_cons, List.length_cons] at *; omega
set_option maxHeartbeats 1000000 in
theorem gentries_s {a : Option Addr} {c : Nat} {es : List KV} (hx : RSl w0 H a c es) (hy : ∀ e ∈ es, e.k.length ≤ 140737488355328 ∧ e.v.length ≤ 140737488355328) :
    FnS Try.prog w0 H 7 #[.slice a es.length c] (fun v H' => ∃ x : Int, v = .int .i64 x ∧ (0 ≤ x ∧ x ≤ 1125899906842624) ∧ (x ≤ 2147483647 → x = (sumG es : Nat)) ∧ H' = H) := by
  refine fns_enter Try.func7 rfl rfl rfl ?_
  refine s_kn (Kn.sl hx) fun l1 => ?_
  simp only [maxLen] at l1
  refine sx ?_
  refine s_loop (fun i : Nat × Int => [(0, .slice a es.length c), (3, .int .i64 i.2), (4, .int .i64 i.1)]) (fun _ => H) (fun i => i.1 ≤ es.length ∧ (0 ≤ i.2 ∧ i.2 ≤ 1125899906842624) ∧ (i.2 ≤ 2147483647 → i.2 = (sumG (es.take i.1) : Nat))) (fun i => es.length - i.1) (0, 0) ⟨Nat.zero_le _, by simp only; omega, fun _ => by simp [sumG]⟩ ?_
  rintro ⟨i, x⟩ ⟨h1, h2, h3⟩
  simp only at h1 h2 h3 ⊢
  refine sx ?_
  refine s_lif rfl (fun t1 => ?_) (fun t1 => ?_)
  · obtain ⟨e, he⟩ := get_lt es i (by omega)
    obtain ⟨y1, y2⟩ := hy e (List.mem_of_getElem? he)
    have hst := sumG_snoc (es.take i) e
    rw [← snocT he] at hst
    refine sx ?_
    refine s_if rfl (fun t2 => ?_) (fun t2 => ?_)
    · refine sx ?_; refine s_dr (.one true 0 (.one true 1 (.one true 2 (.one true 3 (.one true 4 (.one true 5 (.one true 6 (.one true 7 (.one true 8 (.one true 9 (.one true 10 (.one true 11 (.one true 12 (.one true 13 (.one true 14 (.one true 15 (.one true 16 .nil))))))))))))))))) mixed (by kernel_rfl) ?_; refine sx ?_
      refine s_again (i + 1, x + 6 + e.k.length + e.v.length) ⟨by simp only; omega, by simp only; omega, fun _ => ?_⟩ (by simp only; omega)
      have := h3 t2
      simp only
      omega
    · refine sx ?_
      exact s_ret1 rfl rfl ⟨x, rfl, h2, fun h => absurd h t2, rfl⟩
  · obtain rfl : i = es.length := by omega
    rw [List.take_length] at h3
    refine sx ?_
    exact s_ret1 rfl rfl ⟨x, rfl, h2, h3, rfl⟩
instance : ElT Try.prog 26 SE := ⟨trivial⟩
/-- Lists of entries that can be read. -/
structure RLs (w0 : World) (H : List Ck) (a : Option Addr) (c : Nat) (ls : List SE) : Prop where
  sl : RSl w0 H a c ls
  el : ∀ s ∈ ls, RSl w0 H s.a s.c s.xs ∧ ∀ e ∈ s.xs, REe w0 H e
theorem RLs.tl {a : Option Addr} {c : Nat} {ls : List SE} {d : Ck} (h : RLs w0 H a c ls) : RLs w0 (d :: H) a c ls := ⟨h.sl.tl, fun s hs => ⟨(h.el s hs).1.tl, fun e he => ((h.el s hs).2 e he).tl⟩⟩
theorem RLs.ent {a : Option Addr} {c : Nat} {ls : List SE} {H' : List Ck} (h : RLs w0 H' a c ls) (g : Ent H H') : RLs w0 H a c ls := ⟨h.sl.ent g, fun s hs => ⟨(h.el s hs).1.ent g, fun e he => ((h.el s hs).2 e he).ent g⟩⟩
def fstE : List SE → Bs → Option Bs
  | [], _ => none
  | s :: ls, k => match getE s.xs k with
    | some v => some v
    | none => fstE ls k
theorem fstE_drop {ls : List SE} {i : Nat} {s : SE} (h : ls[i]? = some s) (k : Bs) : fstE (ls.drop i) k = match getE s.xs k with | some v => some v | none => fstE (ls.drop (i + 1)) k := by
  rw [dropG h]
  rfl
theorem gfirst_s {a a' : Option Addr} {c c' : Nat} {ls : List SE} {key : Bs} (hx : RLs w0 H a c ls) (hk : RBy w0 H a' c' key) :
    FnS Try.prog w0 H 13 #[.slice a ls.length c, .slice a' key.length c'] (FndR w0 (fstE ls key) H) := by
  refine fns_enter Try.func13 rfl rfl rfl ?_
  have hsl := hx.sl
  refine s_kn (Kn.sl hsl) fun ⟨l1, l2⟩ => ?_
  simp only [maxLen] at l2
  refine sx ?_
  refine s_loop (fun i : Nat => [(0, .slice a ls.length c), (1, .slice a' key.length c'), (6, .int .i64 (i : Int))]) (fun _ => H) (fun i => i ≤ ls.length ∧ fstE (ls.drop i) key = fstE ls key) (fun i => ls.length - i) 0 ⟨Nat.zero_le _, rfl⟩ ?_
  rintro i ⟨h1, h2⟩
  refine sx ?_
  refine s_if rfl (fun t1 => ?_) (fun t1 => ?_)
  · obtain ⟨s, hs⟩ := get_lt ls i (by omega)
    obtain ⟨r1, r2⟩ := hx.el s (List.mem_of_getElem? hs)
    have hf := fstE_drop hs key
    refine sx ?_
    refine s_call rfl (gfind_s r1 r2 hk) ?_
    rintro _ _ ⟨va, vc, rfl, hv, rfl⟩
    refine ⟨chk_seq, ?_⟩
    rcases hg : getE s.xs key with _ | w
    · rw [hg] at hf
      refine sx ?_
      exact s_again (i + 1) ⟨by omega, by rw [← h2, hf]⟩ (by omega)
    · rw [hg] at hf hv
      refine sx ?_
      refine s_ret2 rfl rfl rfl ⟨va, vc, ?_, ?_, rfl⟩
      · rw [← h2, hf]
        rfl
      · rw [← h2, hf]
        exact hv
  · obtain rfl : i = ls.length := by omega
    rw [List.drop_length] at h2
    refine sx ?_
    refine s_ret2 rfl rfl rfl ⟨none, 0, ?_, ?_, rfl⟩
    · rw [← h2]
      rfl
    · rw [← h2]
      exact RBy.nil
end Go.Sx
