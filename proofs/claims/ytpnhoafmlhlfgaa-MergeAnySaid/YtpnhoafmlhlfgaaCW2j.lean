/- Part of a proof: several parts of a walk, one behind the other. -/
import Derived.Test.YtpnhoafmlhlfgaaCV3j
import Derived.Test.YtpnhoafmlhlfgaaCGAj
import Derived.Test.YtpnhoafmlhlfgaaCKB
namespace Go.Sx
open Go Go.Proofs
set_option maxRecDepth 10000
section
variable {P : Program} {S : World → Prop} {l : List (Nat × Value)} {d : Option Tmp} {ty : TypeId} {pos : String} {af : Array Edge} {g : Option (Nat × Bool)}
theorem y_shlU {x : Operand} {T U : TypeId} {v : Nat} {k' : IntKind} (hx : ev l x = some (.int .u64 (v : Int))) (hv : v < 72057594037927936) :
    Y P S ⟨d, .binOp .shl T x (.const (.int k' 8)) U, ty, pos, af, g⟩ l (.int .u64 ((v * 256 : Nat) : Int)) := .mk fun w _ ρ hρ => by
  have h2 := hρ (.const (.int k' 8)) _ rfl
  have h3 : IntKind.u64.wrap ((v : Int) * 256) = ((v * 256 : Nat) : Int) := by
    have := wrap_u64 (n := v * 256) (by omega)
    rw [← this]; rfl
  simp [execOp, hρ _ _ hx, h2, eqGuard, binOp, Op.shift, IntKind.bits, h3]
theorem y_orU {x y : Operand} {T U : TypeId} {a c : Nat} (hx : ev l x = some (.int .u64 ((a * 256 : Nat) : Int))) (hy : ev l y = some (.int .u64 (c : Int))) (ha : a < 72057594037927936) (hc : c < 256) :
    Y P S ⟨d, .binOp .or T x y U, ty, pos, af, g⟩ l (.int .u64 ((a * 256 + c : Nat) : Int)) := .mk fun w _ ρ hρ => by
  have h3 : Go.bits .or .u64 ((a * 256 : Nat) : Int) (c : Int) = ((a * 256 : Nat) : Int) + c := bits_join .u64 64 (by decide) (fun m h0 h1 => by
    obtain ⟨n, rfl⟩ := Int.eq_ofNat_of_zero_le h0
    exact wrap_u64 (by omega)) 8 _ _ (by omega) (by omega) (by omega) (by omega) (by omega) (by omega)
  have h4 : (((a * 256 + c : Nat) : Int)) = ((a * 256 : Nat) : Int) + c := by omega
  rw [h4, ← h3]
  simp [execOp, hρ _ _ hx, hρ _ _ hy, eqGuard, binOp, Op.intBits, Go.bits]
theorem y_subU {x y : Operand} {T U : TypeId} {a c : Nat} (hx : ev l x = some (.int .u64 (a : Int))) (hy : ev l y = some (.int .u64 (c : Int))) (h : c ≤ a ∧ a < 18446744073709551616) :
    Y P S ⟨d, .binOp .sub T x y U, ty, pos, af, g⟩ l (.int .u64 ((a - c : Nat) : Int)) := .mk fun w _ ρ hρ => by
  have h3 : IntKind.u64.wrap ((a : Int) - c) = ((a - c : Nat) : Int) := by
    have := wrap_u64 (n := a - c) (by omega)
    rw [← this]
    congr 1
    omega
  simp [execOp, hρ _ _ hx, hρ _ _ hy, go_sem, Op.intArith, h3]
theorem y_addU {x y : Operand} {T U : TypeId} {a c : Nat} (hx : ev l x = some (.int .u64 (a : Int))) (hy : ev l y = some (.int .u64 (c : Int))) (h : a + c < 18446744073709551616) :
    Y P S ⟨d, .binOp .add T x y U, ty, pos, af, g⟩ l (.int .u64 ((a + c : Nat) : Int)) := .mk fun w _ ρ hρ => by
  have h3 : IntKind.u64.wrap ((a : Int) + c) = ((a + c : Nat) : Int) := by
    have := wrap_u64 (n := a + c) h
    rw [← this]
    congr 1
  simp [execOp, hρ _ _ hx, hρ _ _ hy, go_sem, Op.intArith, h3]
end
variable {w0 : World} {H : List Ck}
theorem takeS_none {n : Nat} {s : SrcB} (h : s.2 = true ∨ s.1.length < n) : takeS n s = ([], (s.1, true)) := if_pos h
theorem takeS_some {n : Nat} {s : SrcB} (h1 : s.2 = false) (h : n ≤ s.1.length) : takeS n s = (s.1.take n, (s.1.drop n, false)) := if_neg (by rintro (h2 | h2); rw [h1] at h2; cases h2; omega)
theorem takeS_len (n : Nat) (s : SrcB) : (takeS n s).1.length ≤ n := by
  unfold takeS
  split
  · simp
  · simp only [List.length_take]; omega
theorem takeS_le (n : Nat) (s : SrcB) : (takeS n s).1.length + (takeS n s).2.1.length ≤ s.1.length := by
  unfold takeS
  split
  · simp
  · simp only [List.length_take, List.length_drop]; omega
theorem beN_bd (xs : Bs) {k : Nat} (h : xs.length ≤ k) : beN xs < 256 ^ k := Nat.lt_of_lt_of_le (beN_lt xs.length xs rfl) (Nat.pow_le_pow_right (by decide) h)
theorem numS_lt (k : Nat) (s : SrcB) : (numS k s).1 < 256 ^ k := beN_bd _ (takeS_len k s)
theorem beN_step {xs : Bs} {i : Nat} {x : UInt8} (h : xs[i]? = some x) : beN (xs.take (i + 1)) = beN (xs.take i) * 256 + x.toNat := by rw [snocT h, beN_snoc]
abbrev TakR (T S n : Nat) (s : SrcB) (H0 H : List Ck) (w0 : World) : Value → List Ck → Prop := fun v H' => ∃ ra a2 c2, v = .slice ra (takeS n s).1.length (takeS n s).1.length ∧ RBy w0 H0 a2 c2 (takeS n s).2.1 ∧ H' = ob ra (takeS n s).1.length (takeS n s).1 :: .hb S T [.slice a2 (takeS n s).2.1.length c2, .bool (takeS n s).2.2] :: H
abbrev NmsR (T S k : Nat) (s : SrcB) (H0 H : List Ck) (w0 : World) : Value → List Ck → Prop := fun v H' => ∃ a2 c2, v = .int .u64 ((numS k s).1 : Int) ∧ RBy w0 H0 a2 c2 (numS k s).2.1 ∧ H' = .hb S T [.slice a2 (numS k s).2.1.length c2, .bool (numS k s).2.2] :: H
theorem numS_le (k : Nat) (s : SrcB) : (numS k s).2.1.length ≤ s.1.length := by
  have := takeS_le k s
  show (takeS k s).2.1.length ≤ s.1.length
  omega
theorem oneS_le (s : SrcB) : (oneS s).2.1.length ≤ s.1.length := by
  have h1 := numS_le 8 s
  have h2 := numS_le 1 (numS 8 s).2
  have h3 := numS_le 2 (numS 1 (numS 8 s).2).2
  have h4 := numS_le 2 (numS 2 (numS 1 (numS 8 s).2).2).2
  have h5 := takeS_le (numS 2 (numS 1 (numS 8 s).2).2).1 (numS 2 (numS 2 (numS 1 (numS 8 s).2).2).2).2
  have h6 := takeS_le (numS 2 (numS 2 (numS 1 (numS 8 s).2).2).2).1 (takeS (numS 2 (numS 1 (numS 8 s).2).2).1 (numS 2 (numS 2 (numS 1 (numS 8 s).2).2).2).2).2
  show (takeS _ _).2.1.length ≤ _
  omega
/-- All that Decode reads. -/
def srcM (xs : Bs) : List MD × SrcB := loopS (numS 4 (xs, false)).1 [] (numS 4 (xs, false)).2
structure DcI where
  n : Nat
  a7 : Option Addr
  c7 : Nat
  ms : List Mg
  a : Option Addr
  c : Nat
  s : SrcB
end Go.Sx
namespace Go.Sx
open Go Go.Proofs
set_option maxRecDepth 10000
variable {w0 : World} {H : List Ck}
def decM (size : Int) (xs : Bs) : Option (List MD) := if sizedB size = true ∧ (srcM xs).2.2 = false ∧ (srcM xs).2.1.length = 0 ∧ chkM size (srcM xs).1 = 0 then some (srcM xs).1 else none
def decME (size : Int) (xs : Bs) : Int := if sizedB size = false then 1 else if (decM size xs).isSome then 0 else 73
abbrev DcmR (size : Int) (xs : Bs) (H : List Ck) : Value → List Ck → Prop := fun v H' => ∃ a c ms, v = .tuple #[.slice a (ms : List Mg).length c, .int .i64 (decME size xs)] ∧ ms.map Mg.d = (decM size xs).getD [] ∧ H' = ol 64 a c ms :: stars oM ms :: H
theorem nilM : Ent H (ol 64 none 0 ([] : List Mg) :: stars oM ([] : List Mg) :: H) := stars_nil.trans Ent.nilS
end Go.Sx
namespace Go.Sx
open Go Go.Proofs
set_option maxRecDepth 10000
variable {w0 : World} {H : List Ck}
end Go.Sx
namespace Go.Sx
open Go Go.Proofs
set_option maxRecDepth 10000
variable {w0 : World} {H : List Ck}
theorem q_ret3 {fn : Func} {R : Value → World → Prop} {P : Program} {n : Nat} {l : List (Nat × Value)} {w : World} {t u x : Tmp} {v v' v2 : Value} (hr : fn.results = #[.tmp t, .tmp u, .tmp x]) (hl : look l t = some v) (hl' : look l u = some v') (hl2 : look l x = some v2) (h : R (.tuple #[v, v', v2]) w) :
    QJ n dx0 (bodyPost P fn (RetR R)) .ret l w := .mk fun a ha =>
  ⟨ha.defers, .tuple #[v, v', v2], by simp [results, hr, Array.getD_eq_getD_getElem?, ha.has _ _ hl, ha.has _ _ hl', ha.has _ _ hl2], _, rfl, h⟩
theorem s_ret3 {fn : Func} {R : Value → List Ck → Prop} {P : Program} {n : Nat} {l : List (Nat × Value)} {H H' : List Ck} {t u x : Tmp} {v v' v2 : Value} (hr : fn.results = #[.tmp t, .tmp u, .tmp x]) (hl : look l t = some v) (hl' : look l u = some v') (hl2 : look l x = some v2) (h : R (.tuple #[v, v', v2]) H') (he : Ent H H' := by exact ent) :
    SQ n dx0 (bodyPost P fn (RetR (RS w0 R))) .ret l w0 H := .mk fun _ hs => q_ret3 hr hl hl' hl2 ⟨H', h, hs.ent he⟩
theorem q_retcvv {fn : Func} {R : Value → World → Prop} {P : Program} {n : Nat} {l : List (Nat × Value)} {w : World} {t u x : Tmp} {v v2 : Value} {T : TypeId} {sz : Nat} [h : AgT P T sz] {k U : Nat} {vs : List Value} (hr : fn.results = #[.cell t T, .tmp u, .tmp x]) (hl : look l t = some (.pointer (some ⟨k, 0, none⟩))) (hu : look l u = some v) (hx : look l x = some v2) (hB : HB w k U vs) (hz : vs.length = sz)
    (hR : R (.tuple #[.agg vs.toArray, v, v2]) w) : QJ n dx0 (bodyPost P fn (RetR R)) .ret l w := .mk fun a ha => by
  subst hz
  have := run_loadCells_list (P := P) (w := w) ⟨k, 0, none⟩ vs hB.cells
  exact ⟨ha.defers, .tuple #[.agg vs.toArray, v, v2], by simp [results, hr, Array.getD_eq_getD_getElem?, ha.has _ _ hl, ha.has _ _ hu, ha.has _ _ hx, asAddr, loadVar, h.agg, h.size, this], _, rfl, hR⟩
theorem s_retcvv {fn : Func} {R : Value → List Ck → Prop} {P : Program} {n : Nat} {l : List (Nat × Value)} {H H' : List Ck} {t u x : Tmp} {v v2 : Value} {T : TypeId} {sz : Nat} [h : AgT P T sz] {k U : Nat} {vs : List Value} {H1 : List Ck} (hr : fn.results = #[.cell t T, .tmp u, .tmp x]) (hl : look l t = some (.pointer (some ⟨k, 0, none⟩))) (hu : look l u = some v) (hx : look l x = some v2) (hB : At (.hb k U vs) (.hb k U vs) H H1) (hz : vs.length = sz)
    (hR : R (.tuple #[.agg vs.toArray, v, v2]) H') (he : Ent H H' := by exact ent) : SQ n dx0 (bodyPost P fn (RetR (RS w0 R))) .ret l w0 H := .mk fun _ hs => q_retcvv hr hl hu hx (Sat.hbOf hB hs) hz ⟨H', hR, hs.ent he⟩
structure RdcI where
  n : Nat
  a7 : Option Addr
  c7 : Nat
  ms : List Mg
  p : Nat
  s : SrcB
abbrev RdmR (xs : Bs) (H : List Ck) : Value → List Ck → Prop := fun v H' => ∃ a c ms p, v = .tuple #[.slice a (ms : List Mg).length c, .int .i64 ((p : Nat) : Int), .bool (!(srcM xs).2.2)] ∧ ms.map Mg.d = (srcM xs).1 ∧ p ≤ xs.length ∧ (srcM xs).2.1 = xs.drop p ∧ (∀ u ∈ ms, 0 ≤ u.st ∧ u.st < 18446744073709551616) ∧ H' = ol 64 a c ms :: stars oM ms :: H
end Go.Sx
namespace Go.Sx
open Go Go.Proofs
set_option maxRecDepth 10000
variable {w0 : World} {H : List Ck}
def agC (m : Mg) (x y z : Option Addr × Nat) : List Value := [.int .u64 m.st, .int .i64 m.kd, .slice x.1 m.lo.length x.2, .slice y.1 m.hi.length y.2, .slice z.1 m.v.length z.2]
/-- What a message does within a range. -/
def wthM (r : T3) (m : MD) : Option MD := if emR (meR (saidR m) r) = true then none else some (if m.kd = 3 then ⟨m.st, m.kd, (meR (saidR m) r).1, (meR (saidR m) r).2.1, m.v⟩ else m)
def withinL (r : T3) (l : List MD) : List MD := l.filterMap (wthM r)
structure WiJ where
  i : Nat
  a : Option Addr
  c : Nat
  ms : List Mg
end Go.Sx
