/- Part of a proof: several parts of a walk, one behind the other. -/
import Derived.Test.YtkcabddbeclokaaGreatCV5
import Derived.Lib.Bytealg
namespace Go.Sx
open Go Go.Proofs
set_option maxRecDepth 10000
variable {w0 : World} {H : List Ck}
end Go.Sx
namespace Go.Sx
open Go Go.Proofs
set_option maxRecDepth 10000
variable {w0 : World} {H : List Ck}
theorem q_ret3 {fn : Func} {R : Value → World → Prop} {P : Program} {n : Nat} {l : List (Nat × Value)} {w : World} {t u x : Tmp} {v v' v2 : Value} (hr : fn.results = #[.tmp t, .tmp u, .tmp x]) (hl : look l t = some v) (hl' : look l u = some v') (hl2 : look l x = some v2) (h : R (.tuple #[v, v', v2]) w) :
    QJ n [] (bodyPost P fn (RetR R)) .ret l w := .mk fun a ha =>
  ⟨ha.defers, .tuple #[v, v', v2], by simp [results, hr, Array.getD_eq_getD_getElem?, ha.has _ _ hl, ha.has _ _ hl', ha.has _ _ hl2], _, rfl, h⟩
theorem s_ret3 {fn : Func} {R : Value → List Ck → Prop} {P : Program} {n : Nat} {l : List (Nat × Value)} {H H' : List Ck} {t u x : Tmp} {v v' v2 : Value} (hr : fn.results = #[.tmp t, .tmp u, .tmp x]) (hl : look l t = some v) (hl' : look l u = some v') (hl2 : look l x = some v2) (h : R (.tuple #[v, v', v2]) H') (he : Ent H H' := by exact ent) :
    SQ n [] (bodyPost P fn (RetR (RS w0 R))) .ret l w0 H := .mk fun _ hs => q_ret3 hr hl hl' hl2 ⟨H', h, hs.ent he⟩
theorem q_retcvv {fn : Func} {R : Value → World → Prop} {P : Program} {n : Nat} {l : List (Nat × Value)} {w : World} {t u x : Tmp} {v v2 : Value} {T : TypeId} {sz : Nat} [h : AgT P T sz] {k U : Nat} {vs : List Value} (hr : fn.results = #[.cell t T, .tmp u, .tmp x]) (hl : look l t = some (.pointer (some ⟨k, 0, none⟩))) (hu : look l u = some v) (hx : look l x = some v2) (hB : HB w k U vs) (hz : vs.length = sz)
    (hR : R (.tuple #[.agg vs.toArray, v, v2]) w) : QJ n [] (bodyPost P fn (RetR R)) .ret l w := .mk fun a ha => by
  subst hz
  have := run_loadCells_list (P := P) (w := w) ⟨k, 0, none⟩ vs hB.cells
  exact ⟨ha.defers, .tuple #[.agg vs.toArray, v, v2], by simp [results, hr, Array.getD_eq_getD_getElem?, ha.has _ _ hl, ha.has _ _ hu, ha.has _ _ hx, asAddr, loadVar, h.agg, h.size, this], _, rfl, hR⟩
theorem s_retcvv {fn : Func} {R : Value → List Ck → Prop} {P : Program} {n : Nat} {l : List (Nat × Value)} {H H' : List Ck} {t u x : Tmp} {v v2 : Value} {T : TypeId} {sz : Nat} [h : AgT P T sz] {k U : Nat} {vs : List Value} {H1 : List Ck} (hr : fn.results = #[.cell t T, .tmp u, .tmp x]) (hl : look l t = some (.pointer (some ⟨k, 0, none⟩))) (hu : look l u = some v) (hx : look l x = some v2) (hB : At (.hb k U vs) (.hb k U vs) H H1) (hz : vs.length = sz)
    (hR : R (.tuple #[.agg vs.toArray, v, v2]) H') (he : Ent H H' := by exact ent) : SQ n [] (bodyPost P fn (RetR (RS w0 R))) .ret l w0 H := .mk fun _ hs => q_retcvv hr hl hu hx (Sat.hbOf hB hs) hz ⟨H', hR, hs.ent he⟩
structure RdcI where
  n : Nat
  a7 : Option Addr
  c7 : Nat
  ms : List Mg
  p : Nat
  s : SrcB
abbrev RdmR (xs : Bs) (H : List Ck) : Value → List Ck → Prop := fun v H' => ∃ a c ms p, v = .tuple #[.slice a (ms : List Mg).length c, .int .i64 ((p : Nat) : Int), .bool (!(srcM xs).2.2)] ∧ ms.map Mg.d = (srcM xs).1 ∧ p ≤ xs.length ∧ (srcM xs).2.1 = xs.drop p ∧ (∀ u ∈ ms, 0 ≤ u.st ∧ u.st < 18446744073709551616) ∧ H' = ol 56 a c ms :: stars oM ms :: H
end Go.Sx
namespace Go.Sx
open Go Go.Proofs
set_option maxRecDepth 10000
theorem run_loadBytes {P : Program} {w : World} : ∀ (xs : Bs) (ad : Addr) (acc : ByteArray), (∀ i v, (xs.map bv)[i]? = some v → w.cell? (ad.add i) = some v) → (Extern.Bytes.loadBytes ad xs.length acc).run P w = .ok ⟨acc.data ++ xs.toArray⟩ w
  | [], ad, acc, _ => by simp [Extern.Bytes.loadBytes]
  | x :: xs, ad, acc, h => by
    have h0 := h 0 (bv x) (by simp)
    have e0 : ad.add 0 = ad := by unfold Addr.add; split <;> simp_all
    rw [e0] at h0
    have ih := run_loadBytes (P := P) (w := w) xs (ad.add 1) (acc.push x) (fun i v hi => by rw [add_add, Nat.add_comm]; exact h (i + 1) v (by simpa using hi))
    simp only [Extern.Bytes.loadBytes, List.length_cons]
    simp [h0, bv, ih]
theorem cmpB : ∀ (xs ys : Bs), Lib.compareBytes xs ys = cmp xs ys
  | [], [] => rfl
  | [], _ :: _ => rfl
  | _ :: _, [] => rfl
  | a :: x, b :: y => by
    simp only [Lib.compareBytes, cmp]
    by_cases h : a = b
    · subst h
      rw [if_neg (by simp only [UInt8.lt_iff_toNat_lt]; omega), if_neg (by simp only [UInt8.lt_iff_toNat_lt]; omega), if_pos rfl]
      exact cmpB x y
    · rw [if_neg h]
      have hn : a.toNat ≠ b.toNat := fun e => h (UInt8.toNat_inj.1 e)
      by_cases hl : a < b
      · rw [if_pos hl, if_neg (by simp only [UInt8.lt_iff_toNat_lt] at *; omega)]
      · rw [if_neg hl, if_pos (by simp only [UInt8.lt_iff_toNat_lt] at *; omega), if_pos (by simp only [UInt8.lt_iff_toNat_lt] at *; omega)]
theorem run_bytesOf {P : Program} {w : World} {a : Option Addr} {c : Nat} {xs : Bs} (h : By w a c xs) : (Extern.Bytes.bytesOf (.slice a xs.length c)).run P w = .ok ⟨xs.toArray⟩ w := by
  cases a with
  | none =>
    have h1 := h.nil rfl
    have h2 := h.le
    have : xs = [] := List.eq_nil_of_length_eq_zero (by omega)
    subst this
    rfl
  | some ad =>
    have := run_loadBytes (P := P) (w := w) xs ad .empty (h.cells ad rfl)
    simp only [Extern.Bytes.bytesOf]
    rw [this]
    simp
theorem run_bcmp {P : Program} {w : World} {a b : Option Addr} {c e : Nat} {xs ys : Bs} (h : By w a c xs) (k : By w b e ys) : (Extern.BytealgCompare.compare #[.slice a xs.length c, .slice b ys.length e]).run P w = .ok (.int .i64 (cmp xs ys)) w := by
  change Sem.run P (do pure (goInt (Extern.BytealgCompare.cmp (← Extern.Bytes.bytesOf (.slice a xs.length c)) (← Extern.Bytes.bytesOf (.slice b ys.length e))))) w = _
  simp only [Sem.run_bind, Sem.run_pure, run_bytesOf h, run_bytesOf k, Result.andThen]
  rw [Lib.cmp_eq, cmpB]
  rfl
/-- A function that is bytealg.Compare. -/
class BcT (P : Program) (k : FuncId) : Prop where
  run : ∀ args w, (callFunc k args).run P w = ((Extern.BytealgCompare.compare args).run P w).andThen fun v w' => .ok (.value v) w'
theorem y_bcmp {P : Program} {l : List (Nat × Value)} {d : Option Tmp} {ty : TypeId} {pos : String} {af : Array Edge} {g : Option (Nat × Bool)} {w0 : World} {H : List Ck} {k : FuncId} [hB : BcT P k] {x y : Operand} {ts : Array TypeId} {a b : Option Addr} {c e : Nat} {xs ys : Bs}
    (hx : ev l x = some (.slice a xs.length c)) (hy : ev l y = some (.slice b ys.length e)) (h1 : RBy w0 H a c xs) (h2 : RBy w0 H b e ys) :
    Y P (Sat w0 H) ⟨d, .call { callee := .value (.func k), args := #[x, y], argTypes := ts }, ty, pos, af, g⟩ l (.int .i64 (cmp xs ys)) := .mk fun w hw ρ hρ => by
  have h3 := hB.run #[.slice a xs.length c, .slice b ys.length e] w
  rw [run_bcmp (h1 w hw) (h2 w hw)] at h3
  simp [execOp, resolve, hρ _ _ hx, hρ _ _ hy, hρ (.func k) _ rfl, Deferred.ofValue, invoke, h3]
instance : BcT Tryz.prog 97 := ⟨fun args w => run_callFunc_extern Tryz.func97 (by kernel_rfl) (by kernel_rfl) (by kernel_rfl) (e := Extern.BytealgCompare.compare) (by kernel_rfl) args w⟩
variable {w0 : World} {H : List Ck}
theorem bcompare_s {a b : Option Addr} {c e : Nat} {xs ys : Bs} (h1 : RBy w0 H a c xs) (h2 : RBy w0 H b e ys) : FnV Tryz.prog w0 H 88 #[.slice a xs.length c, .slice b ys.length e] (.int .i64 (cmp xs ys)) := by
  refine fns_enter Tryz.func88 rfl rfl rfl ?_
  refine sx ?_
  refine s_yL (y_bcmp (xs := xs) (ys := ys) rfl rfl h1 h2) ?_
  refine sx ?_
  exact s_ret1 rfl rfl ⟨rfl, rfl⟩
end Go.Sx
namespace Go.Sx
open Go Go.Proofs
set_option maxRecDepth 10000
variable {w0 : World} {H : List Ck}
/-- A node: children, keys, messages. -/
structure Nd where
  k : Kd
  ma : Option Addr
  mc : Nat
  ms : List Mg
def Nd.cells (n : Nd) : List Value := [.slice n.k.pa n.k.ps.length n.k.pc, .slice n.k.ka n.k.ks.length n.k.kc, .slice n.ma n.ms.length n.mc]
abbrev Nd.md (n : Nd) : List MD := n.ms.map Mg.d
instance : Cel Nd := ⟨3, Nd.cells, fun _ => rfl, fun _ => rfl, by decide⟩
structure RNd (w0 : World) (H : List Ck) (n : Nd) : Prop where
  k : RKd w0 H n.k
  ms : RMs w0 H n.ma n.mc n.ms
theorem RNd.tl {n : Nd} {d : Ck} (h : RNd w0 H n) : RNd w0 (d :: H) n := ⟨h.k.tl, h.ms.tl⟩
theorem RNd.ent {n : Nd} {H' : List Ck} (h : RNd w0 H' n) (e : Ent H H') : RNd w0 H n := ⟨h.k.ent e, h.ms.ent e⟩
theorem rnd {n : Nd} (h : RNd w0 H n := by (repeat (first | assumption | apply RNd.tl)); first | done | fail) : RNd w0 H n := h
/-- Does all that a message says lie within its child's Span? -/
def withN (ks : List Bs) (m : MD) : Bool := decide (m.kd ≠ 3) || decide (chl ks m.lo = ks.length) || decide (cmp m.hi (ks.getD (chl ks m.lo) []) ≤ 0)
/-- May a message stand behind another one? -/
def behN (size : Int) (ks : List Bs) (a b : MD) : Bool := decide (chl ks a.lo < chl ks b.lo) || (decide (chl ks a.lo = chl ks b.lo) && decide (chkM size [a, b] = 0))
/-- What is wrong with a message, of which the one ahead is known. -/
def oneN (size : Int) (ks : List Bs) (p : Option MD) (m : MD) : Int :=
  if chkM size [m] ≠ 0 then chkM size [m] else if withN ks m = false then 83 else match p with
    | none => 0
    | some a => if behN size ks a m = false then 72 else 0
def mayG (size : Int) (ks : List Bs) : Option MD → List MD → Int
  | _, [] => 0
  | p, m :: r => if oneN size ks p m ≠ 0 then oneN size ks p m else mayG size ks (some m) r
/-- What is wrong with a node's messages. -/
def mayN (size : Int) (ks : List Bs) (ms : List MD) : Int := mayG size ks none ms
def chkN (size : Int) (d : List Int × List Bs) (ms : List MD) : Int :=
  if chkK size d ≠ 0 then chkK size d else if (size - 32) / 2 < (bytesK d : Int) then 81 else if mayN size d.2 ms ≠ 0 then mayN size d.2 ms else if size - 32 < (bytesK d + bytesM ms : Nat) then 82 else 0
/-- The one ahead of the i-th. -/
def prevM (ms : List MD) (i : Nat) : Option MD := if i = 0 then none else ms[i - 1]?
theorem mayG_step {size : Int} {ks : List Bs} {ms : List MD} {i : Nat} {m : MD} (h : ms[i]? = some m) : mayG size ks (prevM ms i) (ms.drop i) = if oneN size ks (prevM ms i) m ≠ 0 then oneN size ks (prevM ms i) m else mayG size ks (prevM ms (i + 1)) (ms.drop (i + 1)) := by
  rw [dropC h, mayG]
  have : prevM ms (i + 1) = some m := by rw [prevM, if_neg (by omega)]; exact h
  rw [this]
theorem chl_le (ks : List Bs) (key : Bs) : chl ks key ≤ ks.length := List.findIdx_le_length
theorem whose_s {n : Nd} {m : Mg} (hn : RNd w0 H n) (hm : RMg w0 H m) : FnV Tryz.prog w0 H 40 #[.agg n.cells.toArray, .agg m.cells.toArray] (.int .i64 ((chl n.k.keys m.lo : Nat) : Int)) := by
  refine fns_enter Tryz.func40 rfl rfl rfl ?_
  have hk := hn.k
  have hlo := hm.lo
  refine sx ?_
  refine s_boxA rfl fun b2 => ?_
  refine sx ?_
  refine s_boxA rfl fun b3 => ?_
  refine sx ?_
  refine s_callV rfl (bchild_s (k := n.k) (key := m.lo) (by exact rkd) (by exact rby)) ?_
  refine sx ?_
  exact s_ret1 rfl rfl ⟨rfl, rfl⟩
theorem within_s {n : Nd} {m : Mg} (hn : RNd w0 H n) (hm : RMg w0 H m) : FnV Tryz.prog w0 H 67 #[.agg n.cells.toArray, .agg m.cells.toArray] (.bool (withN n.k.keys m.d)) := by
  refine fns_enter Tryz.func67 rfl rfl rfl ?_
  have hks := hn.k.ks
  have hhi := hm.hi
  have hle := chl_le n.k.keys m.lo
  rw [List.length_map] at hle
  refine sx ?_
  refine s_boxA rfl fun b2 => ?_
  refine sx ?_
  refine s_boxA rfl fun b3 => ?_
  refine sx ?_
  refine s_callV rfl (whose_s (n := n) (m := m) (by exact rnd) (by exact rmg)) ?_
  refine sx ?_
  have hlen : n.k.keys.length = n.k.ks.length := List.length_map _
  unfold withN
  rw [hlen]
  refine sx ?_; refine s_dr (.one true 0 (.one true 1 (.one true 2 (.one true 3 (.one true 4 (.one true 5 (.one true 6 (.one true 7 (.one true 8 (.one true 9 (.one true 10 (.one true 11 (.one true 12 (.one true 13 (.one true 14 (.one true 15 (.one true 16 (.one true 17 (.one true 18 (.one true 19 (.one false 20 (.one true 21 (.one true 22 (.one true 23 .nil)))))))))))))))))))))))) mixed (by kernel_rfl) ?_; refine sx ?_
  refine s_lifn rfl (fun t1 => ?_) (fun t1 => ?_)
  · refine sx ?_
    refine s_ret1 rfl rfl ⟨?_, rfl⟩
    rw [decide_eq_true (show m.d.kd ≠ 3 from t1)]
    rfl
  rw [decide_eq_false (show ¬ m.d.kd ≠ 3 from fun h => h t1), Bool.false_or]
  refine sx ?_
  refine s_rw (t := 15) (v' := .pointer (some ((⟨b2, 0, none⟩ : Addr).add 1))) rfl rfl ?_
  refine sx ?_
  refine s_lif rfl (fun t2 => ?_) (fun t2 => ?_)
  · refine sx ?_
    refine s_ret1 rfl rfl ⟨?_, rfl⟩
    rw [decide_eq_true (show chl n.k.keys m.d.lo = n.k.ks.length by simp only; omega)]
    rfl
  rw [decide_eq_false (show ¬ chl n.k.keys m.d.lo = n.k.ks.length by simp only; omega), Bool.false_or]
  obtain ⟨p, hp⟩ := get_lt n.k.ks (chl n.k.keys m.lo) (by omega)
  have hpe := hn.k.el p (List.mem_of_getElem? hp)
  have e : n.k.keys.getD (chl n.k.keys m.lo) [] = p.xs := by rw [List.getD_eq_getElem?_getD, List.getElem?_map, hp]; rfl
  refine sx ?_
  refine s_rw (t := 24) (v' := .pointer (some ((⟨b2, 0, none⟩ : Addr).add 1))) rfl rfl ?_
  refine sx ?_
  refine s_callV rfl (bcompare_s (xs := m.hi) (ys := p.xs) (by exact rby) (by repeat (first | exact hpe | apply RBy.tl))) ?_
  refine sx ?_
  refine s_ret1 rfl rfl ⟨?_, rfl⟩
  simp only [e]
end Go.Sx
