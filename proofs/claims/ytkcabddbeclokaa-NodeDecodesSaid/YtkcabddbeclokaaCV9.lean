/- Which nodes may be: in plain words; the program's parts. -/
import Derived.Test.YtkcabddbeclokaaCV8
namespace Go.Sx
open Go Go.Proofs
set_option maxRecDepth 10000
variable {w0 : World} {H : List Ck}
/-- A node: children, keys, messages. -/
structure Nd where
  k : Kd
  ma : Option Addr
  mc : Nat
  ms : List Mg
def Nd.cells (n : Nd) : List Value := [.slice n.k.pa n.k.ps.length n.k.pc, .slice n.k.ka n.k.ks.length n.k.kc, .slice n.ma n.ms.length n.mc]
abbrev Nd.md (n : Nd) : List MD := n.ms.map Mg.d
instance : Cel Nd := ⟨3, Nd.cells, fun _ => rfl, fun _ => rfl, by decide⟩
structure RNd (w0 : World) (H : List Ck) (n : Nd) : Prop where
  k : RKd w0 H n.k
  ms : RMs w0 H n.ma n.mc n.ms
theorem RNd.tl {n : Nd} {d : Ck} (h : RNd w0 H n) : RNd w0 (d :: H) n := ⟨h.k.tl, h.ms.tl⟩
theorem RNd.ent {n : Nd} {H' : List Ck} (h : RNd w0 H' n) (e : Ent H H') : RNd w0 H n := ⟨h.k.ent e, h.ms.ent e⟩
theorem rnd {n : Nd} (h : RNd w0 H n := by (repeat (first | assumption | apply RNd.tl)); first | done | fail) : RNd w0 H n := h
/-- Does all that a message says lie within its child's Span? -/
def withN (ks : List Bs) (m : MD) : Bool := decide (m.kd ≠ 3) || decide (chl ks m.lo = ks.length) || decide (cmp m.hi (ks.getD (chl ks m.lo) []) ≤ 0)
/-- May a message stand behind another one? -/
def behN (size : Int) (ks : List Bs) (a b : MD) : Bool := decide (chl ks a.lo < chl ks b.lo) || (decide (chl ks a.lo = chl ks b.lo) && decide (chkM size [a, b] = 0))
/-- What is wrong with a message, of which the one ahead is known. -/
def oneN (size : Int) (ks : List Bs) (p : Option MD) (m : MD) : Int :=
  if chkM size [m] ≠ 0 then chkM size [m] else if withN ks m = false then 83 else match p with
    | none => 0
    | some a => if behN size ks a m = false then 72 else 0
def mayG (size : Int) (ks : List Bs) : Option MD → List MD → Int
  | _, [] => 0
  | p, m :: r => if oneN size ks p m ≠ 0 then oneN size ks p m else mayG size ks (some m) r
/-- What is wrong with a node's messages. -/
def mayN (size : Int) (ks : List Bs) (ms : List MD) : Int := mayG size ks none ms
def chkN (size : Int) (d : List Int × List Bs) (ms : List MD) : Int :=
  if chkK size d ≠ 0 then chkK size d else if (size - 32) / 2 < (bytesK d : Int) then 81 else if mayN size d.2 ms ≠ 0 then mayN size d.2 ms else if size - 32 < (bytesK d + bytesM ms : Nat) then 82 else 0
/-- The one ahead of the i-th. -/
def prevM (ms : List MD) (i : Nat) : Option MD := if i = 0 then none else ms[i - 1]?
theorem mayG_step {size : Int} {ks : List Bs} {ms : List MD} {i : Nat} {m : MD} (h : ms[i]? = some m) : mayG size ks (prevM ms i) (ms.drop i) = if oneN size ks (prevM ms i) m ≠ 0 then oneN size ks (prevM ms i) m else mayG size ks (prevM ms (i + 1)) (ms.drop (i + 1)) := by
  rw [dropC h, mayG]
  have : prevM ms (i + 1) = some m := by rw [prevM, if_neg (by omega)]; exact h
  rw [this]
theorem chl_le (ks : List Bs) (key : Bs) : chl ks key ≤ ks.length := List.findIdx_le_length
theorem whose_s {n : Nd} {m : Mg} (hn : RNd w0 H n) (hm : RMg w0 H m) : FnV Try.prog w0 H 67 #[.agg n.cells.toArray, .agg m.cells.toArray] (.int .i64 ((chl n.k.keys m.lo : Nat) : Int)) := by
  refine fns_enter Try.func67 rfl rfl rfl ?_
  have hk := hn.k
  have hlo := hm.lo
  refine sx ?_
  refine s_boxA rfl fun b2 => ?_
  refine sx ?_
  refine s_boxA rfl fun b3 => ?_
  refine sx ?_
  refine s_callV rfl (bchild_s (k := n.k) (key := m.lo) (by exact rkd) (by exact rby)) ?_
  refine sx ?_
  exact s_ret1 rfl rfl ⟨rfl, rfl⟩
theorem within_s {n : Nd} {m : Mg} (hn : RNd w0 H n) (hm : RMg w0 H m) : FnV Try.prog w0 H 93 #[.agg n.cells.toArray, .agg m.cells.toArray] (.bool (withN n.k.keys m.d)) := by
  refine fns_enter Try.func93 rfl rfl rfl ?_
  have hks := hn.k.ks
  have hhi := hm.hi
  have hle := chl_le n.k.keys m.lo
  rw [List.length_map] at hle
  refine sx ?_
  refine s_boxA rfl fun b2 => ?_
  refine sx ?_
  refine s_boxA rfl fun b3 => ?_
  refine sx ?_
  refine s_callV rfl (whose_s (n := n) (m := m) (by exact rnd) (by exact rmg)) ?_
  refine sx ?_
  have hlen : n.k.keys.length = n.k.ks.length := List.length_map _
  unfold withN
  rw [hlen]
  refine sx ?_; refine s_dr (.one true 0 (.one true 1 (.one true 2 (.one true 3 (.one true 4 (.one true 5 (.one true 6 (.one true 7 (.one true 8 (.one true 9 (.one true 10 (.one true 11 (.one true 12 (.one true 13 (.one true 14 (.one true 15 (.one true 16 (.one true 17 (.one true 18 (.one true 19 (.one false 20 (.one true 21 (.one true 22 (.one true 23 .nil)))))))))))))))))))))))) mixed (by kernel_rfl) ?_; refine sx ?_
  refine s_lifn rfl (fun t1 => ?_) (fun t1 => ?_)
  · refine sx ?_
    refine s_ret1 rfl rfl ⟨?_, rfl⟩
    rw [decide_eq_true (show m.d.kd ≠ 3 from t1)]
    rfl
  rw [decide_eq_false (show ¬ m.d.kd ≠ 3 from fun h => h t1), Bool.false_or]
  refine sx ?_
  refine s_rw (t := 15) (v' := .pointer (some ((⟨b2, 0, none⟩ : Addr).add 1))) rfl rfl ?_
  refine sx ?_
  refine s_lif rfl (fun t2 => ?_) (fun t2 => ?_)
  · refine sx ?_
    refine s_ret1 rfl rfl ⟨?_, rfl⟩
    rw [decide_eq_true (show chl n.k.keys m.d.lo = n.k.ks.length by simp only; omega)]
    rfl
  rw [decide_eq_false (show ¬ chl n.k.keys m.d.lo = n.k.ks.length by simp only; omega), Bool.false_or]
  obtain ⟨p, hp⟩ := get_lt n.k.ks (chl n.k.keys m.lo) (by omega)
  have hpe := hn.k.el p (List.mem_of_getElem? hp)
  have e : n.k.keys.getD (chl n.k.keys m.lo) [] = p.xs := by rw [List.getD_eq_getElem?_getD, List.getElem?_map, hp]; rfl
  refine sx ?_
  refine s_rw (t := 24) (v' := .pointer (some ((⟨b2, 0, none⟩ : Addr).add 1))) rfl rfl ?_
  refine sx ?_
  refine s_callV rfl (bcompare_s (xs := m.hi) (ys := p.xs) (by exact rby) (by repeat (first | exact hpe | apply RBy.tl))) ?_
  refine sx ?_
  refine s_ret1 rfl rfl ⟨?_, rfl⟩
  simp only [e]
end Go.Sx
