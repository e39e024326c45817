/- Part of a proof: several parts of a walk, one behind the other. -/
import Derived.Test.YtimakbpghggdfaaGreatCZJj
import Derived.Test.YtimakbpghggdfaaGreatCZLj
namespace Go.Sx
open Go Go.Proofs
set_option maxRecDepth 10000
variable {w0 : World} {H : List Ck}
end Go.Sx
namespace Go.Sx
open Go Go.Proofs
set_option maxRecDepth 10000
variable {w0 : World} {H : List Ck}
/-- What is read of a piece. -/
structure RPc (w0 : World) (H : List Ck) (p : Pc) : Prop where
  key : RBy w0 H p.ka p.kc p.key
  v : RBy w0 H p.va p.vc p.v
  g : RRg w0 H p.g
theorem RPc.tl {p : Pc} {d : Ck} (h : RPc w0 H p) : RPc w0 (d :: H) p := ⟨h.key.tl, h.v.tl, h.g.tl⟩
theorem RPc.ent {p : Pc} {H' : List Ck} (h : RPc w0 H' p) (e : Ent H H') : RPc w0 H p := ⟨h.key.ent e, h.v.ent e, ⟨h.g.lo.ent e, h.g.hi.ent e⟩⟩
theorem RPc.oP {p : Pc} : RPc w0 (oP p ++ H) p := ⟨RBy.hd, RBy.hd.tl, ⟨RBy.hd.tl.tl, RBy.hd.tl.tl.tl⟩⟩
theorem RPc.st {ps : List Pc} {p : Pc} (h : p ∈ ps) : RPc w0 (stars Go.Sx.oP ps :: H) p := (RPc.oP (H := [])).ent (by rw [List.append_nil]; exact stars_mem h)
theorem RcA.slgo {α : Type} {_i : Cel α} {sz o n : Nat} {a : Option Addr} {c : Nat} {xs : List α} (h : RSl w0 H a c xs) {i : Nat} {x : α} (hx : xs[i]? = some x) (hz : sz = Cel.sz α) : RcA w0 H (((Sx.gA a).add (i * sz)).add o) (((Cel.f x).drop o).take n) := fun w hs j v hv => by
  have h1 := RcA.slg h hx hz w hs
  rw [add_add]
  refine h1 (o + j) v ?_
  rw [List.getElem?_take] at hv
  split at hv
  · rwa [List.getElem?_drop] at hv
  · cases hv
theorem y_ldG {P : Program} {l : List (Nat × Value)} {d : Option Tmp} {ty : TypeId} {pos : String} {af : Array Edge} {g : Option (Nat × Bool)} {x : Operand} {T : TypeId} [h : AgT P T 3] {a : Option Addr} {c i : Nat} {ps : List Pc} {p : Pc} (hx : ev l x = some (.pointer (some (((Sx.gA a).add (i * 6)).add 3)))) (hs : RSl w0 H a c ps) (hp : ps[i]? = some p) :
    Y P (Sat w0 H) ⟨d, .load T x, ty, pos, af, g⟩ l (.agg p.g.cells.toArray) := y_ldA hx (RcA.slgo (n := 3) hs hp rfl) rfl
end Go.Sx
namespace Go.Sx
open Go Go.Proofs
set_option maxRecDepth 10000
variable {w0 : World} {H : List Ck}
theorem RMs.stG {a : Option Addr} {c : Nat} {ms : List Mg} {H : List Ck} : RMs w0 (ol 35 a c ms :: stars oM ms :: H) a c ms := ⟨RSl.hd, fun m hm => ((RMg.oM (H := [])).ent (by rw [List.append_nil]; exact stars_mem hm)).tl⟩
theorem lsameE_s {a a' : Option Addr} {c c' : Nat} {xs ys : List KV} (hx : RSl w0 H a c xs) (hxr : ∀ e ∈ xs, REe w0 H e) (hy : RSl w0 H a' c' ys) (hyr : ∀ e ∈ ys, REe w0 H e) : FnV Tryz.prog w0 H 21 #[.slice a xs.length c, .slice a' ys.length c'] (.bool (decide (xs.map KV.p = ys.map KV.p))) := by
  refine fns_enter Tryz.func21 rfl rfl rfl ?_
  refine s_kn (Kn.sl hx) fun l1 => s_kn (Kn.sl hy) fun l2 => ?_
  simp only [maxLen] at l1 l2
  refine sx ?_
  refine s_ifn rfl (fun t1 => ?_) (fun t1 => ?_)
  · refine sx ?_
    refine s_ret1 rfl rfl ⟨?_, rfl⟩
    rw [decide_eq_false (fun e => t1 (by have := congrArg List.length e; simp only [List.length_map] at this; rw [this]))]
  have hl : xs.length = ys.length := by omega
  refine sx ?_
  refine s_loop (fun i : Nat => [(0, .slice a xs.length c), (1, .slice a' ys.length c'), (5, .int .i64 i)]) (fun _ => H) (fun i => i ≤ xs.length ∧ (xs.map KV.p).take i = (ys.map KV.p).take i) (fun i => xs.length - i) 0 ⟨Nat.zero_le _, rfl⟩ ?_
  rintro i ⟨hi, he⟩
  refine sx ?_
  refine s_if rfl (fun t2 => ?_) (fun t2 => ?_)
  · obtain ⟨x, hxi⟩ := get_lt xs i (by omega)
    obtain ⟨y, hyi⟩ := get_lt ys i (by omega)
    have hx0 := hxr x (List.mem_of_getElem? hxi)
    have hy0 := hyr y (List.mem_of_getElem? hyi)
    have b1 := hx0.k
    have b2 := hx0.v
    have b3 := hy0.k
    have b4 := hy0.v
    have hbad : x.p ≠ y.p → xs.map KV.p ≠ ys.map KV.p := fun h e => by
      have h1 := get_map (f := KV.p) hxi
      rw [e, get_map (f := KV.p) hyi] at h1
      exact h (Option.some.inj h1).symm
    refine sx ?_; refine s_dr (.one true 0 (.one true 1 (.one true 2 (.one true 3 (.one true 4 (.one true 5 (.one true 6 (.one true 7 (.one true 8 (.one true 9 (.one true 10 (.one true 11 (.one true 12 (.one true 13 (.one true 14 (.one true 15 (.one true 16 (.one true 17 (.one true 18 (.one true 19 (.one true 20 (.one true 21 (.one true 22 (.one true 23 (.one true 24 (.one true 25 (.one true 26 (.one true 27 .nil)))))))))))))))))))))))))))) mixed (by kernel_rfl) ?_; refine sx ?_
    refine s_lifn rfl (fun t3 => ?_) (fun t3 => ?_)
    · refine sx ?_
      refine s_ret1 rfl rfl ⟨?_, rfl⟩
      rw [decide_eq_false (hbad fun e => t3 (congrArg Prod.fst e))]
    refine sx ?_
    refine s_ifn rfl (fun t4 => ?_) (fun t4 => ?_)
    · refine sx ?_
      refine s_ret1 rfl rfl ⟨?_, rfl⟩
      rw [decide_eq_false (hbad fun e => t4 (congrArg Prod.snd e))]
    · refine sx ?_
      refine s_again (i + 1) ⟨by omega, ?_⟩ (by omega)
      have e : x.p = y.p := by show (x.k, x.v) = (y.k, y.v); rw [t3, t4]
      rw [snocT (get_map (f := KV.p) hxi), snocT (get_map (f := KV.p) hyi), he, e]
  · obtain rfl : i = xs.length := by omega
    rw [List.take_of_length_le (by simp), List.take_of_length_le (by simp; omega)] at he
    refine sx ?_
    exact s_ret1 rfl rfl ⟨by rw [decide_eq_true he], rfl⟩
end Go.Sx

