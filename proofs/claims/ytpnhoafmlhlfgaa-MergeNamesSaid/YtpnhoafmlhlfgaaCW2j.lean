/- Part of a proof: several parts of a walk, one behind the other. -/
import Derived.Test.YtpnhoafmlhlfgaaCV4
import Derived.Test.YtpnhoafmlhlfgaaCW1
import Derived.Test.YtpnhoafmlhlfgaaCKB
namespace Go.Sx
open Go Go.Proofs
set_option maxRecDepth 10000
variable {w0 : World} {H : List Ck}
def decM (size : Int) (xs : Bs) : Option (List MD) := if sizedB size = true ∧ (srcM xs).2.2 = false ∧ (srcM xs).2.1.length = 0 ∧ chkM size (srcM xs).1 = 0 then some (srcM xs).1 else none
def decME (size : Int) (xs : Bs) : Int := if sizedB size = false then 1 else if (decM size xs).isSome then 0 else 73
abbrev DcmR (size : Int) (xs : Bs) (H : List Ck) : Value → List Ck → Prop := fun v H' => ∃ a c ms, v = .tuple #[.slice a (ms : List Mg).length c, .int .i64 (decME size xs)] ∧ ms.map Mg.d = (decM size xs).getD [] ∧ H' = ol 64 a c ms :: stars oM ms :: H
theorem nilM : Ent H (ol 64 none 0 ([] : List Mg) :: stars oM ([] : List Mg) :: H) := stars_nil.trans Ent.nilS
end Go.Sx
namespace Go.Sx
open Go Go.Proofs
set_option maxRecDepth 10000
variable {w0 : World} {H : List Ck}
end Go.Sx
namespace Go.Sx
open Go Go.Proofs
set_option maxRecDepth 10000
variable {w0 : World} {H : List Ck}
theorem q_ret3 {fn : Func} {R : Value → World → Prop} {P : Program} {n : Nat} {l : List (Nat × Value)} {w : World} {t u x : Tmp} {v v' v2 : Value} (hr : fn.results = #[.tmp t, .tmp u, .tmp x]) (hl : look l t = some v) (hl' : look l u = some v') (hl2 : look l x = some v2) (h : R (.tuple #[v, v', v2]) w) :
    QJ n dx0 (bodyPost P fn (RetR R)) .ret l w := .mk fun a ha =>
  ⟨ha.defers, .tuple #[v, v', v2], by simp [results, hr, Array.getD_eq_getD_getElem?, ha.has _ _ hl, ha.has _ _ hl', ha.has _ _ hl2], _, rfl, h⟩
theorem s_ret3 {fn : Func} {R : Value → List Ck → Prop} {P : Program} {n : Nat} {l : List (Nat × Value)} {H H' : List Ck} {t u x : Tmp} {v v' v2 : Value} (hr : fn.results = #[.tmp t, .tmp u, .tmp x]) (hl : look l t = some v) (hl' : look l u = some v') (hl2 : look l x = some v2) (h : R (.tuple #[v, v', v2]) H') (he : Ent H H' := by exact ent) :
    SQ n dx0 (bodyPost P fn (RetR (RS w0 R))) .ret l w0 H := .mk fun _ hs => q_ret3 hr hl hl' hl2 ⟨H', h, hs.ent he⟩
theorem q_retcvv {fn : Func} {R : Value → World → Prop} {P : Program} {n : Nat} {l : List (Nat × Value)} {w : World} {t u x : Tmp} {v v2 : Value} {T : TypeId} {sz : Nat} [h : AgT P T sz] {k U : Nat} {vs : List Value} (hr : fn.results = #[.cell t T, .tmp u, .tmp x]) (hl : look l t = some (.pointer (some ⟨k, 0, none⟩))) (hu : look l u = some v) (hx : look l x = some v2) (hB : HB w k U vs) (hz : vs.length = sz)
    (hR : R (.tuple #[.agg vs.toArray, v, v2]) w) : QJ n dx0 (bodyPost P fn (RetR R)) .ret l w := .mk fun a ha => by
  subst hz
  have := run_loadCells_list (P := P) (w := w) ⟨k, 0, none⟩ vs hB.cells
  exact ⟨ha.defers, .tuple #[.agg vs.toArray, v, v2], by simp [results, hr, Array.getD_eq_getD_getElem?, ha.has _ _ hl, ha.has _ _ hu, ha.has _ _ hx, asAddr, loadVar, h.agg, h.size, this], _, rfl, hR⟩
theorem s_retcvv {fn : Func} {R : Value → List Ck → Prop} {P : Program} {n : Nat} {l : List (Nat × Value)} {H H' : List Ck} {t u x : Tmp} {v v2 : Value} {T : TypeId} {sz : Nat} [h : AgT P T sz] {k U : Nat} {vs : List Value} {H1 : List Ck} (hr : fn.results = #[.cell t T, .tmp u, .tmp x]) (hl : look l t = some (.pointer (some ⟨k, 0, none⟩))) (hu : look l u = some v) (hx : look l x = some v2) (hB : At (.hb k U vs) (.hb k U vs) H H1) (hz : vs.length = sz)
    (hR : R (.tuple #[.agg vs.toArray, v, v2]) H') (he : Ent H H' := by exact ent) : SQ n dx0 (bodyPost P fn (RetR (RS w0 R))) .ret l w0 H := .mk fun _ hs => q_retcvv hr hl hu hx (Sat.hbOf hB hs) hz ⟨H', hR, hs.ent he⟩
structure RdcI where
  n : Nat
  a7 : Option Addr
  c7 : Nat
  ms : List Mg
  p : Nat
  s : SrcB
abbrev RdmR (xs : Bs) (H : List Ck) : Value → List Ck → Prop := fun v H' => ∃ a c ms p, v = .tuple #[.slice a (ms : List Mg).length c, .int .i64 ((p : Nat) : Int), .bool (!(srcM xs).2.2)] ∧ ms.map Mg.d = (srcM xs).1 ∧ p ≤ xs.length ∧ (srcM xs).2.1 = xs.drop p ∧ (∀ u ∈ ms, 0 ≤ u.st ∧ u.st < 18446744073709551616) ∧ H' = ol 64 a c ms :: stars oM ms :: H
end Go.Sx
namespace Go.Sx
open Go Go.Proofs
set_option maxRecDepth 10000
variable {w0 : World} {H : List Ck}
def agC (m : Mg) (x y z : Option Addr × Nat) : List Value := [.int .u64 m.st, .int .i64 m.kd, .slice x.1 m.lo.length x.2, .slice y.1 m.hi.length y.2, .slice z.1 m.v.length z.2]
/-- What a message does within a range. -/
def wthM (r : T3) (m : MD) : Option MD := if emR (meR (saidR m) r) = true then none else some (if m.kd = 3 then ⟨m.st, m.kd, (meR (saidR m) r).1, (meR (saidR m) r).2.1, m.v⟩ else m)
def withinL (r : T3) (l : List MD) : List MD := l.filterMap (wthM r)
structure WiJ where
  i : Nat
  a : Option Addr
  c : Nat
  ms : List Mg
end Go.Sx
