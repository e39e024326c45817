/- Part of a proof: several parts of a walk, one behind the other. -/
import Derived.Test.YtimakbpghggdfaaGreatCGM
import Derived.Test.YtimakbpghggdfaaGreatCGPj
import Derived.Test.YtimakbpghggdfaaGreatCZL
import Derived.Test.YtimakbpghggdfaaGreatCZK
namespace Go.Sx
open Go Go.Proofs
set_option maxRecDepth 10000
variable {w0 : World} {H : List Ck}
/-- What is read of a piece. -/
structure RPc (w0 : World) (H : List Ck) (p : Pc) : Prop where
  key : RBy w0 H p.ka p.kc p.key
  v : RBy w0 H p.va p.vc p.v
  g : RRg w0 H p.g
theorem RPc.tl {p : Pc} {d : Ck} (h : RPc w0 H p) : RPc w0 (d :: H) p := ⟨h.key.tl, h.v.tl, h.g.tl⟩
theorem RPc.ent {p : Pc} {H' : List Ck} (h : RPc w0 H' p) (e : Ent H H') : RPc w0 H p := ⟨h.key.ent e, h.v.ent e, ⟨h.g.lo.ent e, h.g.hi.ent e⟩⟩
theorem RPc.oP {p : Pc} : RPc w0 (oP p ++ H) p := ⟨RBy.hd, RBy.hd.tl, ⟨RBy.hd.tl.tl, RBy.hd.tl.tl.tl⟩⟩
theorem RPc.st {ps : List Pc} {p : Pc} (h : p ∈ ps) : RPc w0 (stars Go.Sx.oP ps :: H) p := (RPc.oP (H := [])).ent (by rw [List.append_nil]; exact stars_mem h)
theorem RcA.slgo {α : Type} {_i : Cel α} {sz o n : Nat} {a : Option Addr} {c : Nat} {xs : List α} (h : RSl w0 H a c xs) {i : Nat} {x : α} (hx : xs[i]? = some x) (hz : sz = Cel.sz α) : RcA w0 H (((Sx.gA a).add (i * sz)).add o) (((Cel.f x).drop o).take n) := fun w hs j v hv => by
  have h1 := RcA.slg h hx hz w hs
  rw [add_add]
  refine h1 (o + j) v ?_
  rw [List.getElem?_take] at hv
  split at hv
  · rwa [List.getElem?_drop] at hv
  · cases hv
theorem y_ldG {P : Program} {l : List (Nat × Value)} {d : Option Tmp} {ty : TypeId} {pos : String} {af : Array Edge} {g : Option (Nat × Bool)} {x : Operand} {T : TypeId} [h : AgT P T 3] {a : Option Addr} {c i : Nat} {ps : List Pc} {p : Pc} (hx : ev l x = some (.pointer (some (((Sx.gA a).add (i * 6)).add 3)))) (hs : RSl w0 H a c ps) (hp : ps[i]? = some p) :
    Y P (Sat w0 H) ⟨d, .load T x, ty, pos, af, g⟩ l (.agg p.g.cells.toArray) := y_ldA hx (RcA.slgo (n := 3) hs hp rfl) rfl
structure OfI where
  i : Nat
  va : Option Addr
  vc : Nat
structure FoI where
  i : Nat
  a : Option Addr
  c : Nat
  ks : List SB
  L : List Ck
structure FeI where
  i : Nat
  a : Option Addr
  c : Nat
  xs : Bs
  M : List Ck
end Go.Sx
namespace Go.Sx
open Go Go.Proofs
set_option maxRecDepth 10000
variable {w0 : World} {H : List Ck}
theorem RMs.stG {a : Option Addr} {c : Nat} {ms : List Mg} {H : List Ck} : RMs w0 (ol 35 a c ms :: stars oM ms :: H) a c ms := ⟨RSl.hd, fun m hm => ((RMg.oM (H := [])).ent (by rw [List.append_nil]; exact stars_mem hm)).tl⟩
theorem lsameE_s {a a' : Option Addr} {c c' : Nat} {xs ys : List KV} (hx : RSl w0 H a c xs) (hxr : ∀ e ∈ xs, REe w0 H e) (hy : RSl w0 H a' c' ys) (hyr : ∀ e ∈ ys, REe w0 H e) : FnV Tryz.prog w0 H 21 #[.slice a xs.length c, .slice a' ys.length c'] (.bool (decide (xs.map KV.p = ys.map KV.p))) := by
  refine fns_enter Tryz.func21 rfl rfl rfl ?_
  refine s_kn (Kn.sl hx) fun l1 => s_kn (Kn.sl hy) fun l2 => ?_
  simp only [maxLen] at l1 l2
  refine sx ?_
  refine s_ifn rfl (fun t1 => ?_) (fun t1 => ?_)
  · refine sx ?_
    refine s_ret1 rfl rfl ⟨?_, rfl⟩
    rw [decide_eq_false (fun e => t1 (by have := congrArg List.length e; simp only [List.length_map] at this; rw [this]))]
  have hl : xs.length = ys.length := by omega
  refine sx ?_
  refine s_loop (fun i : Nat => [(0, .slice a xs.length c), (1, .slice a' ys.length c'), (5, .int .i64 i)]) (fun _ => H) (fun i => i ≤ xs.length ∧ (xs.map KV.p).take i = (ys.map KV.p).take i) (fun i => xs.length - i) 0 ⟨Nat.zero_le _, rfl⟩ ?_
  rintro i ⟨hi, he⟩
  refine sx ?_
  refine s_if rfl (fun t2 => ?_) (fun t2 => ?_)
  · obtain ⟨x, hxi⟩ := get_lt xs i (by omega)
    obtain ⟨y, hyi⟩ := get_lt ys i (by omega)
    have hx0 := hxr x (List.mem_of_getElem? hxi)
    have hy0 := hyr y (List.mem_of_getElem? hyi)
    have b1 := hx0.k
    have b2 := hx0.v
    have b3 := hy0.k
    have b4 := hy0.v
    have hbad : x.p ≠ y.p → xs.map KV.p ≠ ys.map KV.p := fun h e => by
      have h1 := get_map (f := KV.p) hxi
      rw [e, get_map (f := KV.p) hyi] at h1
      exact h (Option.some.inj h1).symm
    refine sx ?_; refine s_dr (.one true 0 (.one true 1 (.one true 2 (.one true 3 (.one true 4 (.one true 5 (.one true 6 (.one true 7 (.one true 8 (.one true 9 (.one true 10 (.one true 11 (.one true 12 (.one true 13 (.one true 14 (.one true 15 (.one true 16 (.one true 17 (.one true 18 (.one true 19 (.one true 20 (.one true 21 (.one true 22 (.one true 23 (.one true 24 (.one true 25 (.one true 26 (.one true 27 .nil)))))))))))))))))))))))))))) mixed (by kernel_rfl) ?_; refine sx ?_
    refine s_lifn rfl (fun t3 => ?_) (fun t3 => ?_)
    · refine sx ?_
      refine s_ret1 rfl rfl ⟨?_, rfl⟩
      rw [decide_eq_false (hbad fun e => t3 (congrArg Prod.fst e))]
    refine sx ?_
    refine s_ifn rfl (fun t4 => ?_) (fun t4 => ?_)
    · refine sx ?_
      refine s_ret1 rfl rfl ⟨?_, rfl⟩
      rw [decide_eq_false (hbad fun e => t4 (congrArg Prod.snd e))]
    · refine sx ?_
      refine s_again (i + 1) ⟨by omega, ?_⟩ (by omega)
      have e : x.p = y.p := by show (x.k, x.v) = (y.k, y.v); rw [t3, t4]
      rw [snocT (get_map (f := KV.p) hxi), snocT (get_map (f := KV.p) hyi), he, e]
  · obtain rfl : i = xs.length := by omega
    rw [List.take_of_length_le (by simp), List.take_of_length_le (by simp; omega)] at he
    refine sx ?_
    exact s_ret1 rfl rfl ⟨by rw [decide_eq_true he], rfl⟩
theorem mean_all {l : List MD} {ps : List Pc} (h : IsMean l (ps.map Pc.d)) : ∀ p ∈ ps, p.g.all = false := fun p hp => by
  have hok := h.1.1 p.d (List.mem_map.2 ⟨p, hp, rfl⟩)
  unfold okP at hok
  split at hok
  · exact congrArg (fun t => t.2.2) hok
  · exact hok.2.2.2
set_option maxHeartbeats 4000000 in
theorem lsameP_s {a a' : Option Addr} {c c' : Nat} {xs ys : List Pc} (hx : RSl w0 H a c xs) (hxr : ∀ p ∈ xs, RPc w0 H p) (hy : RSl w0 H a' c' ys) (hyr : ∀ p ∈ ys, RPc w0 H p) (hxa : ∀ p ∈ xs, p.g.all = false) (hya : ∀ p ∈ ys, p.g.all = false) :
    FnV Tryz.prog w0 H 18 #[.slice a xs.length c, .slice a' ys.length c'] (.bool (decide (xs.map Pc.d = ys.map Pc.d))) := by
  refine fns_enter Tryz.func18 rfl rfl rfl ?_
  refine s_kn (Kn.sl hx) fun l1 => s_kn (Kn.sl hy) fun l2 => ?_
  simp only [maxLen] at l1 l2
  refine sx ?_
  refine s_ifn rfl (fun t1 => ?_) (fun t1 => ?_)
  · refine sx ?_
    refine s_ret1 rfl rfl ⟨?_, rfl⟩
    rw [decide_eq_false (fun e => t1 (by have := congrArg List.length e; simp only [List.length_map] at this; rw [this]))]
  have hl : xs.length = ys.length := by omega
  refine sx ?_
  refine s_loop (fun i : Nat => [(0, .slice a xs.length c), (1, .slice a' ys.length c'), (5, .int .i64 i)]) (fun _ => H) (fun i => i ≤ xs.length ∧ (xs.map Pc.d).take i = (ys.map Pc.d).take i) (fun i => xs.length - i) 0 ⟨Nat.zero_le _, rfl⟩ ?_
  rintro i ⟨hi, he⟩
  refine sx ?_
  refine s_if rfl (fun t2 => ?_) (fun t2 => ?_)
  · obtain ⟨x, hxi⟩ := get_lt xs i (by omega)
    obtain ⟨y, hyi⟩ := get_lt ys i (by omega)
    have hx0 := hxr x (List.mem_of_getElem? hxi)
    have hy0 := hyr y (List.mem_of_getElem? hyi)
    have hxa0 := hxa x (List.mem_of_getElem? hxi)
    have hya0 := hya y (List.mem_of_getElem? hyi)
    have hbad : x.d ≠ y.d → xs.map Pc.d ≠ ys.map Pc.d := fun h e => by
      have h1 := get_map (f := Pc.d) hxi
      rw [e, get_map (f := Pc.d) hyi] at h1
      exact h (Option.some.inj h1).symm
    have b1 := hx0.key
    have b2 := hx0.v
    have b3 := hx0.g.lo
    have b4 := hx0.g.hi
    have b5 := hy0.key
    have b6 := hy0.v
    have b7 := hy0.g.lo
    have b8 := hy0.g.hi
    refine sx ?_
    refine s_alloc fun k6 => ?_
    refine sx ?_
    refine s_alloc fun k7 => ?_
    refine sx ?_
    refine s_lsp rfl (fun t3 => ?_) (fun t3 => ?_)
    · refine sx ?_
      refine s_ret1 rfl rfl ⟨?_, rfl⟩
      rw [decide_eq_false (hbad fun e => by have : x.put = y.put := congrArg PD.put e; rw [this] at t3; simp at t3)]
    have t3 : x.put = y.put := by simpa using t3
    refine sx ?_
    refine s_lifn rfl (fun t4 => ?_) (fun t4 => ?_)
    · refine sx ?_
      refine s_ret1 rfl rfl ⟨?_, rfl⟩
      rw [decide_eq_false (hbad fun e => t4 (congrArg PD.key e))]
    refine sx ?_
    refine s_lifn rfl (fun t5 => ?_) (fun t5 => ?_)
    · refine sx ?_
      refine s_ret1 rfl rfl ⟨?_, rfl⟩
      rw [decide_eq_false (hbad fun e => t5 (congrArg PD.v e))]
    refine sx ?_
    refine s_rw (t := 52) (v' := .pointer (some ((⟨k6, 0, none⟩ : Addr).add 3))) rfl rfl ?_
    refine sx ?_
    refine s_rw (t := 56) (v' := .pointer (some ((⟨k7, 0, none⟩ : Addr).add 3))) rfl rfl ?_
    refine sx ?_
    refine s_lifn rfl (fun t6 => ?_) (fun t6 => ?_)
    · refine sx ?_
      refine s_ret1 rfl rfl ⟨?_, rfl⟩
      rw [decide_eq_false (hbad fun e => t6 (congrArg (fun p : PD => p.gn.1) e))]
    refine sx ?_
    refine s_rw (t := 63) (v' := .pointer (some ((⟨k6, 0, none⟩ : Addr).add 4))) rfl rfl ?_
    refine sx ?_
    refine s_rw (t := 67) (v' := .pointer (some ((⟨k7, 0, none⟩ : Addr).add 4))) rfl rfl ?_
    refine sx ?_
    refine s_lifn rfl (fun t7 => ?_) (fun t7 => ?_)
    · refine sx ?_
      refine s_ret1 rfl rfl ⟨?_, rfl⟩
      rw [decide_eq_false (hbad fun e => t7 (congrArg (fun p : PD => p.gn.2.1) e))]
    refine sx ?_
    refine s_rw (t := 74) (v' := .pointer (some ((⟨k6, 0, none⟩ : Addr).add 5))) rfl rfl ?_
    refine sx ?_
    refine s_rw (t := 77) (v' := .bool false) rfl (by rw [hxa0]) ?_
    refine sx ?_
    refine s_rw (t := 79) (v' := .pointer (some ((⟨k7, 0, none⟩ : Addr).add 5))) rfl rfl ?_
    refine sx ?_
    refine s_rwC (t := 81) (v' := .bool false) rfl (by rw [hya0]) ?_
    refine sx ?_
    refine s_again (i + 1) ⟨by omega, ?_⟩ (by omega)
    have e : x.d = y.d := by
      show PD.mk x.put x.key x.v (x.g.lo, x.g.hi, x.g.all) = PD.mk y.put y.key y.v (y.g.lo, y.g.hi, y.g.all)
      rw [t3, t4, t5, t6, t7, hxa0, hya0]
    rw [snocT (get_map (f := Pc.d) hxi), snocT (get_map (f := Pc.d) hyi), he, e]
  · obtain rfl : i = xs.length := by omega
    rw [List.take_of_length_le (by simp), List.take_of_length_le (by simp; omega)] at he
    refine sx ?_
    exact s_ret1 rfl rfl ⟨by rw [decide_eq_true he], rfl⟩
end Go.Sx
