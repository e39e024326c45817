/- Part seven: panics, deferred calls. -/
import Derived.Test.YtbkaabjjmoaijaaSxF
import Derived.Defers
import Derived.Recover
import Derived.Lib.EndianBits
namespace Go.Sx
open Go

/-- What a call is said to do that returns or panics. -/
def RetP (R : Value → World → Prop) (E : List PanicEntry → World → Prop) : Ending → World → Prop := fun e w => (∃ v, e = .returned v ∧ R v w) ∨ (∃ c, e = .panicked c ∧ E c w)
def FnP (P : Program) (k : FuncId) (args : Array Value) (w : World) (R : Value → World → Prop) (E : List PanicEntry → World → Prop) : Prop := Calls P k args w (RetP R E)

section
variable {P : Program} {fn : Func} {R : Value → World → Prop} {E : List PanicEntry → World → Prop} {n : Nat} {ds : List Deferred} {l : List (Nat × Value)} {w : World} {Q : Exit → Act → World → Prop}
theorem q_retP1 {t : Tmp} {v : Value} (hr : fn.results = #[.tmp t]) (hl : look l t = some v) (h : R v w) : QJ n [] (bodyPost P fn (RetP R E)) .ret l w := .mk fun a ha =>
  ⟨ha.defers, v, by rw [results_tmp hr]; simp [Array.getD_eq_getD_getElem?, ha.has _ _ hl], .inl ⟨v, rfl, h⟩⟩
theorem q_retPc {t : Tmp} {T : TypeId} {sz : Nat} [h : AgT P T sz] {k U : Nat} {vs : List Value} (hr : fn.results = #[.cell t T]) (hl : look l t = some (.pointer (some ⟨k, 0, none⟩))) (hB : HB w k U vs) (hz : vs.length = sz)
    (hR : R (.agg vs.toArray) w) : QJ n [] (bodyPost P fn (RetP R E)) .ret l w := .mk fun a ha => by
  subst hz
  have := run_loadCells_list (P := P) (w := w) ⟨k, 0, none⟩ vs hB.cells
  exact ⟨ha.defers, .agg vs.toArray, by simp [results, hr, Array.getD_eq_getD_getElem?, ha.has _ _ hl, asAddr, loadVar, h.agg, h.size, this], .inl ⟨_, rfl, hR⟩⟩
theorem q_panP {c : List PanicEntry} (h : E c w) : QJ n [] (bodyPost P fn (RetP R E)) (.panic c) l w := .mk fun _ ha => ⟨ha.defers, .inr ⟨c, rfl, h⟩⟩
end

section
variable {M : Mode} {P : Program} {n : Nat} {ds : List Deferred} {ops : Array Oper} {Q : Exit → Act → World → Prop} {b : Bool} {rest : Tr} {l : List (Nat × Value)} {w : World}
variable {ty : TypeId} {pos : String} {af : Array Edge} {g : Option (Nat × Bool)}
/-- A call that may panic. -/
theorem l_callP {d : Nat} {k : FuncId} {xs : List Operand} {ts : Array TypeId} {args : List Value} {R : Value → World → Prop} {E : List PanicEntry → World → Prop} [hk : FnT P k] (hb : (M.any || !b) = true) (hg : gOk ops l g = true) (hd : Nat.blt d n = true)
    (ha : evs l xs = some args) (hf : FnP P k args.toArray w R E) (hE : ∀ c w', E c w' → QJ n ds Q (.panic c) l w') (h : ∀ v w', R v w' → M.chk w' ∧ LJ M P n ds ops Q rest ((d, v) :: l) w') :
    LJ M P n ds ops Q (.one b ⟨some d, .call { callee := .value (.func k), args := xs.toArray, argTypes := ts }, ty, pos, af, g⟩ rest) l w := by
  refine .mk fun a hfr => ?_
  unfold WL
  rw [if_pos (gOk_spec hg hfr)]
  refine .inr ⟨by simpa using hb, ?_⟩
  have hargs := evs_map hfr.agr ha
  unfold Oper.wp
  have : (execOp a.eval ⟨some d, .call { callee := .value (.func k), args := xs.toArray, argTypes := ts }, ty, pos, af, g⟩).run P w = .ok (.enter k args.toArray) w := by
    simp [execOp, resolve, Act.eval, Deferred.ofValue, invoke, hargs, hk.run]
  rw [this]
  refine Calls.mono hf ?_
  rintro e w' (⟨v, rfl, hR⟩ | ⟨c, rfl, hc⟩)
  · exact ⟨(h v w' hR).1, (h v w' hR).2.out _ (hfr.put v hd)⟩
  · exact (hE c w' hc).out _ hfr
/-- A panic with a value that is no nil. -/
theorem l_panic {x : Operand} {T : TypeId} {v : Value} (hb : (M.any || !b) = true) (hg : gOk ops l g = true) (hx : ev l x = some (.iface T v)) (h : QJ n ds Q (.panic [{ v := .iface T v, recovered := false }]) l w) :
    LJ M P n ds ops Q (.one b ⟨none, .panic x, ty, pos, af, g⟩ rest) l w := by
  refine .mk fun a hfr => ?_
  unfold WL
  rw [if_pos (gOk_spec hg hfr)]
  refine .inr ⟨by simpa using hb, ?_⟩
  unfold Oper.wp
  have : (execOp a.eval ⟨none, .panic x, ty, pos, af, g⟩).run P w = .halt (.panic (.iface T v)) w := by
    have e := hfr.agr _ _ hx
    have h2 : (Instr.panic (.iface T v)).run P w = .halt (.panic (.iface T v)) w := by simp [Instr.panic, go_sem]
    simp [execOp, e, h2]
  rw [this]
  exact h.out _ hfr
/-- A call is put off. -/
theorem l_defer {x : Operand} {f : Go.Fn} {cap : Array Value} (hb : (M.any || !b) = true) (hg : gOk ops l g = true) (hx : ev l x = some (.func f #[] cap)) (hc : M.chk w)
    (h : LJ M P n ({ target := .fn f cap, args := #[] } :: ds) ops Q rest l w) : LJ M P n ds ops Q (.one b ⟨none, .defer { callee := .value x, args := #[], argTypes := #[] }, ty, pos, af, g⟩ rest) l w := by
  refine .mk fun a hfr => ?_
  unfold WL
  rw [if_pos (gOk_spec hg hfr)]
  refine .inr ⟨by simpa using hb, ?_⟩
  unfold Oper.wp
  have : (execOp a.eval ⟨none, .defer { callee := .value x, args := #[], argTypes := #[] }, ty, pos, af, g⟩).run P w = .ok (.defer { target := .fn f cap, args := #[] }) w := by
    simp [execOp, resolve, Deferred.ofValue, hfr.agr _ _ hx]
  rw [this]
  exact ⟨hc, h.out _ ⟨hfr.size, by simp [hfr.defers, Act.put], hfr.has⟩⟩
end

section
variable {P : Program} {S : World → Prop} {l : List (Nat × Value)} {d : Option Tmp} {ty : TypeId} {pos : String} {af : Array Edge} {g : Option (Nat × Bool)}
theorem y_mki {x : Operand} {T : TypeId} {v : Value} (hx : ev l x = some v) (hr : ∀ w, (Instr.makeInterface T v).run P w = .ok (.iface T v) w) :
    Y P S ⟨d, .makeInterface T x, ty, pos, af, g⟩ l (.iface T v) := .mk fun w _ ρ hρ => by
  simp [execOp, hρ _ _ hx, hr]
theorem y_mkf {f : Go.Fn} {xs : List Operand} {args : List Value} (hx : evs l xs = some args) :
    Y P S ⟨d, .makeFunc f #[] xs.toArray, ty, pos, af, g⟩ l (.func f #[] args.toArray) := .mk fun w _ ρ hρ => by
  have := evs_map hρ hx
  simp [execOp, Instr.makeFunc, this]
theorem y_tas {x : Operand} {T U : TypeId} {v r : Value} (hx : ev l x = some v) (hr : ∀ w, (Instr.typeAssert v T U true).run P w = .ok r w) :
    Y P S ⟨d, .typeAssert x T U true, ty, pos, af, g⟩ l r := .mk fun w _ ρ hρ => by
  simp [execOp, hρ _ _ hx, hr]
/-- A byte's shift, and two numbers laid together. -/
theorem y_shl8 {x : Operand} {T U : TypeId} {a : Nat} {k' : IntKind} (hx : ev l x = some (.int .i64 (a : Int))) (ha : a < 65536) :
    Y P S ⟨d, .binOp .shl T x (.const (.int k' 8)) U, ty, pos, af, g⟩ l (.int .i64 ((a * 256 : Nat) : Int)) := .mk fun w _ ρ hρ => by
  have h2 := hρ (.const (.int k' 8)) _ rfl
  have h3 : IntKind.i64.wrap ((a : Int) * 256) = ((a * 256 : Nat) : Int) := by rw [IntWalk.i64_in _ (by omega)]; omega
  simp [execOp, hρ _ _ hx, h2, eqGuard, binOp, Op.shift, IntKind.bits, h3]
theorem y_or8 {x y : Operand} {T U : TypeId} {a c : Nat} (hx : ev l x = some (.int .i64 ((a * 256 : Nat) : Int))) (hy : ev l y = some (.int .i64 (c : Int))) (ha : a < 65536) (hc : c < 256) :
    Y P S ⟨d, .binOp .or T x y U, ty, pos, af, g⟩ l (.int .i64 ((a * 256 + c : Nat) : Int)) := .mk fun w _ ρ hρ => by
  have h3 : Go.bits .or .i64 ((a * 256 : Nat) : Int) (c : Int) = ((a * 256 : Nat) : Int) + c := bits_join .i64 63 (by decide) (fun m h0 h1 => IntWalk.i64_in m (by omega)) 8 _ _ (by omega) (by omega) (by omega) (by omega) (by omega) (by omega)
  have h4 : (((a * 256 + c : Nat) : Int)) = ((a * 256 : Nat) : Int) + c := by omega
  rw [h4, ← h3]
  simp [execOp, hρ _ _ hx, hρ _ _ hy, eqGuard, binOp, Op.intBits, Go.bits]
end

/-- append of so many zeros to nothing. -/
theorem run_app_zeros {P : Program} (w : World) {T U E : TypeId} {sz by' : Nat} [hT : SlT P T E sz by'] [hU : InT P U .i64] (ty : TypeId) {n : Nat} (hsz : 0 < sz) (h0 : 0 < n) (hle : n ≤ maxLen) (hby : n * by' ≤ 140737488355328) :
    ∃ c rest, (Builtin.append_ #[T, U] ty #[.slice none 0 0, .int .i64 (n : Int)]).run P w = .ok (.slice (some ⟨w.heap.size, 0, none⟩) n c) (w.drew.alloc (.cells (rest : List Value).toArray E)) ∧ rest.length = c * sz ∧ n ≤ c ∧ c ≤ maxLen := by
  obtain ⟨i, z, i1, i2, i3, i4, i5⟩ := hT.info
  have hn : n ≠ 0 := by omega
  have hle' : (n : Int) ≤ 9223372036854775807 := by simp only [maxLen] at hle; omega
  have h63' : ¬ (9223372036854775807 < (n : Int)) := by omega
  have h48' : ¬ (281474976710656 < Builtin.nextslicecap n 0 * by') := by rw [nextslicecap_zero h0]; omega
  have h48 : ¬ (281474976710656 < (n : Int) * (by' : Int)) := by
    have : ((n * by' : Nat) : Int) = (n : Int) * (by' : Int) := by simp
    omega
  have hw : IntKind.i64.wrap (n : Int) = n := IntWalk.i64_in _ (by omega)
  have hge : n ≤ grownCap w n 0 E := grownCap_ge w n 0 E
  refine ⟨grownCap w n 0 E, (Builtin.zeroCells z.cells n).toList ++ (Builtin.zeroCells z.cells (grownCap w n 0 E - n)).toList, ?_, ?_, hge, grownCap_le_maxLen w n 0 E hle⟩
  · have hnn : ¬ ((n : Int) < 0) := by omega
    have : n * sz ≠ 0 := by have := Nat.mul_pos h0 hsz; omega
    simp [Builtin.append_, run_underlying hT.und, run_underlying hU.und, sizeOf, typeInfo, zeroValue, i1, i2, i3, i4, asInt, asIntOf, hw, hn, this, hnn, h63', h48, h48', Question.forced, run_firstCells_none, newRow, grownCap]
    congr 2
    apply Array.ext'
    simp
  · simp only [List.length_append, Array.length_toList, size_zeroCells, i5, ← Nat.add_mul]
    congr 1
    omega
section
variable {M : Mode} {P : Program} {n : Nat} {ds : List Deferred} {ops : Array Oper} {Q : Exit → Act → World → Prop} {b : Bool} {rest : Tr} {l : List (Nat × Value)} {w : World}
variable {ty : TypeId} {pos : String} {af : Array Edge} {g : Option (Nat × Bool)}
theorem l_appz {d : Nat} {T U E : TypeId} {sz by' : Nat} [hT : SlT P T E sz by'] [hU : InT P U .i64] {s x : Operand} {m : Nat} (hsz : 0 < sz) (hb : (M.any || !b) = true) (hg : gOk ops l g = true) (hd : Nat.blt d n = true)
    (hs : ev l s = some (.slice none 0 0)) (hx : ev l x = some (.int .i64 (m : Int))) (h0 : 0 < m) (hby : m * by' ≤ 140737488355328) (hle : m ≤ maxLen)
    (h : ∀ k c w', Ex w w' → w.heap.size ≤ k → Own w' w.heap.size E sz (some ⟨k, 0, none⟩) 0 c [] → m ≤ c → M.chk w' ∧ LJ M P n ds ops Q rest ((d, .slice (some ⟨k, 0, none⟩) m c) :: l) w') :
    LJ M P n ds ops Q (.one b ⟨some d, .call { callee := .builtin .append, args := #[s, x], argTypes := #[T, U] }, ty, pos, af, g⟩ rest) l w := by
  obtain ⟨c, zs, hr, h1, h2, h3⟩ := run_app_zeros (P := P) (T := T) (U := U) w ty hsz h0 hle hby
  have hO : Own (w.drew.alloc (.cells zs.toArray E)) w.heap.size E sz (some ⟨w.heap.size, 0, none⟩) 0 c [] :=
    Own.mk (rest := zs) (Nat.le_refl _) (by have := heap_alloc_new w.drew (.cells zs.toArray E); exact this) (by simp) (Nat.zero_le _) h3 (by simpa using h1)
  obtain ⟨h5, h6⟩ := h w.heap.size c _ ((Ext.drew w).trans (Ext.alloc _ _)) (Nat.le_refl _) hO h2
  refine l_e hb hg hd (fun ρ hρ => ?_) h5 h6
  simp [execOp, resolve, invoke, builtin, hρ _ _ hs, hρ _ _ hx, hr]
end

/-! ### A function that puts calls off -/
theorem fn_enterD {P : Program} {k : FuncId} {fn : Func} {c : Code} {args : List Value} {w : World} {R : Ending → World → Prop} {n : Nat}
    (hf : P.funcs[k]? = some fn) (hb : fn.body = some c) (hn : fn.ntmps = n) (hl : Nat.ble args.length n = true)
    (h : CJ P n [] c (bodyPostD P fn R) (slots 0 args) w) : Calls P k args.toArray w R := by
  refine calls_of_wp_defers hf hb ?_
  subst hn
  exact h.out _ (frok_start args (by simpa using hl))
section
variable {P : Program} {fn : Func} {R : Value → World → Prop} {n : Nat} {l : List (Nat × Value)} {w : World}
theorem res_cc {t t' : Tmp} {T T' : TypeId} [h : ScT P T] [h' : ScT P T'] {k k' U U' : Nat} {v v' : Value} {tmps : Array Value} (hr : fn.results = #[.cell t T, .cell t' T'])
    (hl : tmps[t]? = some (.pointer (some ⟨k, 0, none⟩))) (hl' : tmps[t']? = some (.pointer (some ⟨k', 0, none⟩))) (hB : HB w k U [v]) (hB' : HB w k' U' [v']) : (results fn tmps).run P w = .ok (.tuple #[v, v']) w := by
  have h1 := hB.cell0 rfl
  have h2 := hB'.cell0 rfl
  simp [results, hr, Array.getD_eq_getD_getElem?, hl, hl', asAddr, loadVar, h.agg, h'.agg, h1, h2]
/-- The end of a function with one call put off. -/
theorem q_dret {t t' : Tmp} {T T' : TypeId} [h : ScT P T] [h' : ScT P T'] {g : FuncId} {cap : Array Value} {p p' : Nat} (hr : fn.results = #[.cell t T, .cell t' T'])
    (hl : look l t = some (.pointer (some ⟨p, 0, none⟩))) (hl' : look l t' = some (.pointer (some ⟨p', 0, none⟩))) [hk : FnT P g]
    {K : World → Prop} (hc : CallsD P g cap .returning w fun e u' w' => (∃ v, e = .returned v) ∧ settle u' = .returning ∧ K w')
    (hR : ∀ w', K w' → ∃ U U' v v', HB w' p U [v] ∧ HB w' p' U' [v'] ∧ R (.tuple #[v, v']) w') :
    QJ n [{ target := .fn (.func g) cap, args := #[] }] (bodyPostD P fn (RetR R)) .ret l w := .mk fun a ha => by
  show Leaves P fn a.tmps (RetR R) a.defers .returning w
  rw [ha.defers]
  refine leaves_cons (f := g) (args := cap) (by simp) (by simp [invoke, hk.run]) (hc.mono ?_)
  rintro e u' w' ⟨⟨v, rfl⟩, hs, hK⟩
  obtain ⟨U, U', x, x', h1, h2, h3⟩ := hR w' hK
  show Leaves P fn a.tmps (RetR R) [] (settle u') w'
  rw [hs]
  exact ⟨_, res_cc hr (ha.has _ _ hl) (ha.has _ _ hl') h1 h2, _, rfl, h3⟩
theorem q_dpan {t t' : Tmp} {T T' : TypeId} [h : ScT P T] [h' : ScT P T'] {g : FuncId} {cap : Array Value} {p p' : Nat} {c : List PanicEntry} (hr : fn.results = #[.cell t T, .cell t' T'])
    (hl : look l t = some (.pointer (some ⟨p, 0, none⟩))) (hl' : look l t' = some (.pointer (some ⟨p', 0, none⟩))) [hk : FnT P g]
    {K : World → Prop} (hc : CallsD P g cap (.panicking c) w fun e u' w' => (∃ v, e = .returned v) ∧ settle u' = .returning ∧ K w')
    (hR : ∀ w', K w' → ∃ U U' v v', HB w' p U [v] ∧ HB w' p' U' [v'] ∧ R (.tuple #[v, v']) w') :
    QJ n [{ target := .fn (.func g) cap, args := #[] }] (bodyPostD P fn (RetR R)) (.panic c) l w := .mk fun a ha => by
  show Leaves P fn a.tmps (RetR R) a.defers (.panicking c) w
  rw [ha.defers]
  refine leaves_cons (f := g) (args := cap) (by simp) (by simp [invoke, hk.run]) (hc.mono ?_)
  rintro e u' w' ⟨⟨v, rfl⟩, hs, hK⟩
  obtain ⟨U, U', x, x', h1, h2, h3⟩ := hR w' hK
  show Leaves P fn a.tmps (RetR R) [] (settle u') w'
  rw [hs]
  exact ⟨_, res_cc hr (ha.has _ _ hl) (ha.has _ _ hl') h1 h2, _, rfl, h3⟩
/-- A function that returns ahead of what it puts off. -/
theorem q_dret0 {t t' : Tmp} {T T' : TypeId} [h : ScT P T] [h' : ScT P T'] {p p' U U' : Nat} {v v' : Value} (hr : fn.results = #[.cell t T, .cell t' T'])
    (hl : look l t = some (.pointer (some ⟨p, 0, none⟩))) (hl' : look l t' = some (.pointer (some ⟨p', 0, none⟩))) (h1 : HB w p U [v]) (h2 : HB w p' U' [v']) (h3 : R (.tuple #[v, v']) w) :
    QJ n [] (bodyPostD P fn (RetR R)) .ret l w := .mk fun a ha => by
  show Leaves P fn a.tmps (RetR R) a.defers .returning w
  rw [ha.defers]
  exact ⟨_, res_cc hr (ha.has _ _ hl) (ha.has _ _ hl') h1 h2, _, rfl, h3⟩
theorem frok_of {a : Act} {n : Nat} {l : List (Nat × Value)} (hs : a.tmps.size = n) (hd : a.defers = []) (h : ∀ p ∈ l, a.tmps[p.1]? = some p.2) : FrOk n [] l a := by
  refine ⟨hs, hd, ?_⟩
  induction l with
  | nil => intro t v ht; cases ht
  | cons p l ih =>
    intro t v ht
    simp only [look] at ht
    by_cases e : p.1 = t
    · subst e
      simp at ht
      subst ht
      exact h p (by simp)
    · have hb : Nat.beq p.1 t = false := by rw [← Bool.not_eq_true, Nat.beq_eq]; exact e
      rw [hb] at ht
      exact ih (fun q hq => h q (by simp [hq])) t v ht
end
theorem c_drP {P : Program} {n : Nat} {ds : List Deferred} {Q : Exit → Act → World → Prop} {l : List (Nat × Value)} {w : World} {id : Nat} {lo : List Oper} (G : Nat → Prop) (π : It) (hm : P.follows .mixedOrders = true)
    (l0 : List (Nat × Value)) (E : List PanicEntry → World → Prop) (hd : lo.all (apart l0) = true)
    (hc : (Region.noSelect lo.toArray && (π.depth == lo.toArray.size) && π.level && chkOrder lo.toArray π true (Array.replicate lo.toArray.size false)) = true) (hp : ∀ c w', E c w' → QJ n ds Q (.panic c) l0 w')
    (h : ∀ w1, Ex w w1 → w1.heap = w.heap → LJ (held (Ext G w)) P n ds lo.toArray (PanTo n ds l0 E Q) (ordered lo.toArray π) l w1) : CJ P n ds (.region id lo.toArray true) Q l w :=
  c_drawP (Ext G w) π hm l0 E hd hp hc (Ext.drew w) (h w.drew (Ext.drew w) rfl)
theorem sl_ne {a : Option Addr} {c k sz b : Nat} (h : ∀ ad, a = some ad → ad.block ≠ b) : ∀ ad, sl a c k sz = some ad → ad.block ≠ b := by
  intro ad e
  unfold sl at e
  split at e
  · exact h ad e
  · cases a with
    | none => cases e
    | some d =>
      cases e
      have := h d rfl
      unfold Addr.add
      split <;> exact this

theorem Ex.refl' (w : World) : Ex w w := Ext.refl w
/-! ### Slices of slices of bytes -/
structure SB where
  a : Option Addr
  c : Nat
  xs : Bs
def SB.val (p : SB) : Value := .slice p.a p.xs.length p.c
structure Bbs (w : World) (a : Option Addr) (c : Nat) (ps : List SB) : Prop where
  le : ps.length ≤ c
  cap : c ≤ maxLen
  nil : a = none → c = 0
  cells : ∀ ad, a = some ad → Cells w ad (ps.map SB.val)
  by_ : ∀ p, p ∈ ps → By w p.a p.c p.xs
theorem Bbs.ex {w w' : World} {a : Option Addr} {c : Nat} {ps : List SB} (h : Bbs w a c ps) (he : Ex w w') : Bbs w' a c ps :=
  ⟨h.le, h.cap, h.nil, fun ad e => (h.cells ad e).ext he (fun _ h => h), fun p hp => (h.by_ p hp).ex he⟩
theorem Bbs.ext {G : Nat → Prop} {w w' : World} {a : Option Addr} {c : Nat} {ps : List SB} (h : Bbs w a c ps) (he : Ext G w w') (h1 : ∀ ad, a = some ad → ¬ G ad.block) (h2 : ∀ p ∈ ps, ∀ ad, p.a = some ad → ¬ G ad.block) : Bbs w' a c ps :=
  ⟨h.le, h.cap, h.nil, fun ad e => (h.cells ad e).ext he (fun _ => h1 ad e), fun p hp => (h.by_ p hp).ext he (fun ad e _ => h2 p hp ad e)⟩
theorem Bbs.len {w : World} {a : Option Addr} {c : Nat} {ps : List SB} (h : Bbs w a c ps) : (ps.length : Int) ≤ 9223372036854775807 := by
  have := h.le; have := h.cap; simp only [maxLen] at this; omega
theorem Bbs.some {w : World} {a : Option Addr} {c : Nat} {ps : List SB} (h : Bbs w a c ps) (hp : 0 < ps.length) : ∃ ad, a = Option.some ad := by
  cases a with
  | none => have := h.nil rfl; have := h.le; omega
  | some ad => exact ⟨ad, rfl⟩
theorem Bbs.val {w : World} {ad : Addr} {c : Nat} {ps : List SB} (h : Bbs w (Option.some ad) c ps) {i : Nat} {p : SB} (hp : ps[i]? = Option.some p) : w.cell? (ad.add (i * 1)) = Option.some (.slice p.a p.xs.length p.c) := by
  rw [Nat.mul_one]
  exact h.cells ad rfl i _ (by simp [hp, SB.val])
theorem Bbs.at {w : World} {a : Option Addr} {c : Nat} {ps : List SB} (h : Bbs w a c ps) {i : Nat} {p : SB} (hp : ps[i]? = Option.some p) : By w p.a p.c p.xs := h.by_ p (List.mem_of_getElem? hp)
theorem HB.bbs {w : World} {b : Nat} {T : TypeId} {ps : List SB} (h : HB w b T (ps.map SB.val)) (hl : ps.length ≤ maxLen) (hb : ∀ p ∈ ps, By w p.a p.c p.xs) : Bbs w (some ⟨b, 0, none⟩) ps.length ps :=
  ⟨Nat.le_refl _, hl, (fun e => by cases e), (fun ad e => by cases e; exact h.cells), hb⟩
end Go.Sx
