/- The second layer, part three: judgements that name no world. -/
import Derived.Test.YtbkaabjjmoaijaaSyB
namespace Go.Sx
open Go

inductive Md where
  | seq
  | held (Hs : List Ck)
def Md.mode (w0 : World) : Md → Mode
  | .seq => Sx.seq
  | .held Hs => Sx.held (Sat w0 Hs)
def Md.act : Md → Bool → Bool
  | .seq, _ => true
  | .held _, b => !b
def Chk : Md → List Ck → Prop
  | .seq, _ => True
  | .held Hs, H => Ent H Hs
theorem chk_seq {H : List Ck} : Chk .seq H := trivial
theorem chk_held {H Hs : List Ck} (h : Ent H Hs) : Chk (.held Hs) H := h
theorem Chk.out {M : Md} {H : List Ck} (h : Chk M H) {w0 w : World} (hs : Sat w0 H w) : (M.mode w0).chk w := by
  cases M with
  | seq => trivial
  | held Hs => exact hs.ent h
theorem Md.any {M : Md} {w0 : World} {b : Bool} (h : M.act b = true) : ((M.mode w0).any || !b) = true := by
  cases M with
  | seq => simp [Md.mode, Sx.seq]
  | held Hs => simpa [Md.mode, Sx.held, Md.act] using h

structure SC (P : Program) (n : Nat) (ds : List Deferred) (c : Code) (Q : Exit → Act → World → Prop) (l : List (Nat × Value)) (w0 : World) (H : List Ck) : Prop where
  out : ∀ w, Sat w0 H w → CJ P n ds c Q l w
structure SQ (n : Nat) (ds : List Deferred) (Q : Exit → Act → World → Prop) (e : Exit) (l : List (Nat × Value)) (w0 : World) (H : List Ck) : Prop where
  out : ∀ w, Sat w0 H w → QJ n ds Q e l w
structure SL (M : Md) (P : Program) (n : Nat) (ds : List Deferred) (ops : Array Oper) (Q : Exit → Act → World → Prop) (rest : Tr) (l : List (Nat × Value)) (w0 : World) (H : List Ck) : Prop where
  out : ∀ w, Sat w0 H w → LJ (M.mode w0) P n ds ops Q rest l w

section
variable {P : Program} {n : Nat} {ds : List Deferred} {Q : Exit → Act → World → Prop} {l l' : List (Nat × Value)} {w0 : World} {H H' : List Ck} {M : Md} {ops : Array Oper} {rest : Tr}

/-! #### What is known, what is let go -/
theorem s_kn {c : Code} {φ : Prop} (k : Kn w0 H φ) (h : φ → SC P n ds c Q l w0 H) : SC P n ds c Q l w0 H := .mk fun w hs => (h (k w hs)).out w hs
theorem s_knL {φ : Prop} (k : Kn w0 H φ) (h : φ → SL M P n ds ops Q rest l w0 H) : SL M P n ds ops Q rest l w0 H := .mk fun w hs => (h (k w hs)).out w hs
theorem s_knQ {e : Exit} {φ : Prop} (k : Kn w0 H φ) (h : φ → SQ n ds Q e l w0 H) : SQ n ds Q e l w0 H := .mk fun w hs => (h (k w hs)).out w hs
theorem s_ent {c : Code} (H' : List Ck) (e : Ent H H') (h : SC P n ds c Q l w0 H') : SC P n ds c Q l w0 H := .mk fun w hs => h.out w (hs.ent e)
theorem s_entL (H' : List Ck) (e : Ent H H') (h : SL M P n ds ops Q rest l w0 H') : SL M P n ds ops Q rest l w0 H := .mk fun w hs => h.out w (hs.ent e)
theorem s_entQ {e : Exit} (H' : List Ck) (he : Ent H H') (h : SQ n ds Q e l w0 H') : SQ n ds Q e l w0 H := .mk fun w hs => h.out w (hs.ent he)
theorem s_sub {c : Code} (h : SC P n ds c Q l' w0 H) (hs : Sub l' l) : SC P n ds c Q l w0 H := .mk fun w h' => (h.out w h').sub hs

/-! #### Code -/
theorem s_seq {x y : Code} (h : SC P n ds x (Exit.then (fun a w => y.wp P Q a w) Q) l w0 H) : SC P n ds (.seq x y) Q l w0 H := .mk fun w hs => c_seq (h.out w hs)
theorem s_cond {c : Operand} {x y : Code} {t : Bool} (hc : ev l c = some (.bool t)) (ht : t = true → SC P n ds x Q l w0 H) (hf : t = false → SC P n ds y Q l w0 H) : SC P n ds (.cond c x y) Q l w0 H :=
  .mk fun w hs => c_cond hc (fun h => (ht h).out w hs) (fun h => (hf h).out w hs)
theorem s_condT {c : Operand} {x y : Code} (hc : ev l c = some (.bool true)) (ht : SC P n ds x Q l w0 H) : SC P n ds (.cond c x y) Q l w0 H := .mk fun w hs => c_condT hc (ht.out w hs)
theorem s_condF {c : Operand} {x y : Code} (hc : ev l c = some (.bool false)) (hf : SC P n ds y Q l w0 H) : SC P n ds (.cond c x y) Q l w0 H := .mk fun w hs => c_condF hc (hf.out w hs)
theorem s_if {c : Operand} {x y : Code} {p : Prop} [Decidable p] (hc : ev l c = some (.bool (decide p))) (ht : p → SC P n ds x Q l w0 H) (hf : ¬ p → SC P n ds y Q l w0 H) : SC P n ds (.cond c x y) Q l w0 H :=
  .mk fun w hs => c_if hc (fun h => (ht h).out w hs) (fun h => (hf h).out w hs)
theorem s_ifn {c : Operand} {x y : Code} {p : Prop} [Decidable p] (hc : ev l c = some (.bool (!decide p))) (ht : ¬ p → SC P n ds x Q l w0 H) (hf : p → SC P n ds y Q l w0 H) : SC P n ds (.cond c x y) Q l w0 H :=
  .mk fun w hs => c_ifn hc (fun h => (ht h).out w hs) (fun h => (hf h).out w hs)
theorem s_block {id : Nat} {c : Code} (h : SC P n ds c (Exit.inBlock id Q) l w0 H) : SC P n ds (.block id c) Q l w0 H := .mk fun w hs => c_block (h.out w hs)
theorem s_skip (h : SQ n ds Q .normal l w0 H) : SC P n ds .skip Q l w0 H := .mk fun w hs => c_skip (h.out w hs)
theorem s_exit {id : Nat} (h : SQ n ds Q (.exit id) l w0 H) : SC P n ds (.exit id) Q l w0 H := .mk fun w hs => c_exit (h.out w hs)
theorem s_ret (h : SQ n ds Q .ret l w0 H) : SC P n ds .ret Q l w0 H := .mk fun w hs => c_ret (h.out w hs)
theorem s_reg {id : Nat} {lo : List Oper} (h : SL .seq P n ds lo.toArray Q (Tr.ofList lo) l w0 H) : SC P n ds (.region id lo.toArray false) Q l w0 H := .mk fun w hs => c_reg (h.out w hs)
/-- A region that draws its order; Hs: what stands through all of it. -/
theorem s_drH {id : Nat} {lo : List Oper} (Hs : List Ck) (π : It) (hm : P.follows .mixedOrders = true)
    (hc : (Region.noSelect lo.toArray && (π.depth == lo.toArray.size) && π.level && chkOrder lo.toArray π true (Array.replicate lo.toArray.size false)) = true)
    (h : SL (.held Hs) P n ds lo.toArray (NoPan Q) (ordered lo.toArray π) l w0 H) (he : Ent H Hs := by exact ent) : SC P n ds (.region id lo.toArray true) Q l w0 H :=
  .mk fun w hs => c_draw (Sat w0 Hs) π hm hc ((hs.ex (Ext.drew w)).ent he) (h.out _ (hs.ex (Ext.drew w)))
theorem s_dr {id : Nat} {lo : List Oper} (π : It) (hm : P.follows .mixedOrders = true)
    (hc : (Region.noSelect lo.toArray && (π.depth == lo.toArray.size) && π.level && chkOrder lo.toArray π true (Array.replicate lo.toArray.size false)) = true)
    (h : SL (.held H) P n ds lo.toArray (NoPan Q) (ordered lo.toArray π) l w0 H) : SC P n ds (.region id lo.toArray true) Q l w0 H := s_drH H π hm hc h Ent.refl
/-- All stands through it but the piece c. -/
theorem s_drR {id : Nat} {lo : List Oper} (c : Ck) {Hs : List Ck} (hr : Rm c H Hs) (π : It) (hm : P.follows .mixedOrders = true)
    (hc : (Region.noSelect lo.toArray && (π.depth == lo.toArray.size) && π.level && chkOrder lo.toArray π true (Array.replicate lo.toArray.size false)) = true)
    (h : SL (.held Hs) P n ds lo.toArray (NoPan Q) (ordered lo.toArray π) l w0 H) : SC P n ds (.region id lo.toArray true) Q l w0 H := s_drH Hs π hm hc h (Ent.rm hr)
/-! #### Ways out -/
theorem s_next {y : Code} {Q' : Exit → Act → World → Prop} (h : SC P n ds y Q l w0 H) : SQ n ds (Exit.then (fun a w => y.wp P Q a w) Q') .normal l w0 H := .mk fun w hs => q_next (h.out w hs)
theorem s_then_exit {K : Act → World → Prop} {id : Nat} (h : SQ n ds Q (.exit id) l w0 H) : SQ n ds (Exit.then K Q) (.exit id) l w0 H := .mk fun w hs => q_then_exit (h.out w hs)
theorem s_then_ret {K : Act → World → Prop} (h : SQ n ds Q .ret l w0 H) : SQ n ds (Exit.then K Q) .ret l w0 H := .mk fun w hs => q_then_ret (h.out w hs)
theorem s_then_panic {K : Act → World → Prop} {c : List PanicEntry} (h : SQ n ds Q (.panic c) l w0 H) : SQ n ds (Exit.then K Q) (.panic c) l w0 H := .mk fun w hs => q_then_panic (h.out w hs)
theorem s_blk_normal {id : Nat} (h : SQ n ds Q .normal l w0 H) : SQ n ds (Exit.inBlock id Q) .normal l w0 H := .mk fun w hs => q_blk_normal (h.out w hs)
theorem s_blk_ret {id : Nat} (h : SQ n ds Q .ret l w0 H) : SQ n ds (Exit.inBlock id Q) .ret l w0 H := .mk fun w hs => q_blk_ret (h.out w hs)
theorem s_blk_panic {id : Nat} {c : List PanicEntry} (h : SQ n ds Q (.panic c) l w0 H) : SQ n ds (Exit.inBlock id Q) (.panic c) l w0 H := .mk fun w hs => q_blk_panic (h.out w hs)
theorem s_blk_hit {id : Nat} (h : SQ n ds Q .normal l w0 H) : SQ n ds (Exit.inBlock id Q) (.exit id) l w0 H := .mk fun w hs => q_blk_hit (h.out w hs)
theorem s_blk_miss {id id' : Nat} (hne : Nat.beq id' id = false) (h : SQ n ds Q (.exit id') l w0 H) : SQ n ds (Exit.inBlock id Q) (.exit id') l w0 H := .mk fun w hs => q_blk_miss hne (h.out w hs)
theorem s_nopan (h : SQ n ds Q .normal l w0 H) : SQ n ds (NoPan Q) .normal l w0 H := .mk fun w hs => q_nopan_normal (h.out w hs)

/-! #### Loops, cuts -/
theorem s_loop {ι : Type} (I : ι → List (Nat × Value)) (HI : ι → List Ck) (φ : ι → Prop) (μ : ι → Nat) {c : Code} (i0 : ι) (h1 : φ i0)
    (round : ∀ i, φ i → SC P n ds c (Exit.then (Again n ds I (fun i w => φ i ∧ Sat w0 (HI i) w) μ i) Q) (I i) w0 (HI i)) (h0 : Sub (I i0) l := by repeat (first | exact trivial | refine And.intro (by first | exact rfl | exact congrArg some (ci (by omega))) ?_)) (he : Ent H (HI i0) := by exact ent) : SC P n ds (.loop c) Q l w0 H :=
  .mk fun _ hs => c_loop I (fun i w => φ i ∧ Sat w0 (HI i) w) μ i0 h0 ⟨h1, hs.ent he⟩ fun i w' hi => (round i hi.1).out w' hi.2
theorem s_again {ι : Type} {I : ι → List (Nat × Value)} {HI : ι → List Ck} {φ : ι → Prop} {μ : ι → Nat} {i : ι} (j : ι) (hi : φ j) (hm : μ j < μ i) (hs : Sub (I j) l := by repeat (first | exact trivial | refine And.intro (by first | exact rfl | exact congrArg some (ci (by omega))) ?_)) (he : Ent H (HI j) := by exact ent) :
    SQ n ds (Exit.then (Again n ds I (fun i w => φ i ∧ Sat w0 (HI i) w) μ i) Q) .normal l w0 H := .mk fun _ h => q_again j hs ⟨hi, h.ent he⟩ hm
theorem s_cut {ι : Type} (I : ι → List (Nat × Value)) (HI : ι → List Ck) (φ : ι → Prop) {x y : Code} {Q' : Exit → Act → World → Prop}
    (h1 : SC P n ds x (Exit.then (Mid n ds I (fun i w => φ i ∧ Sat w0 (HI i) w)) Q) l w0 H) (h2 : ∀ i, φ i → SC P n ds y Q' (I i) w0 (HI i)) : SC P n ds x (Exit.then (fun a w => y.wp P Q' a w) Q) l w0 H :=
  .mk fun w hs => c_cut I (fun i w => φ i ∧ Sat w0 (HI i) w) (h1.out w hs) fun i w' hi a ha => ((h2 i hi.1).out w' hi.2).out a ha
theorem s_mid {ι : Type} {I : ι → List (Nat × Value)} {HI : ι → List Ck} {φ : ι → Prop} (j : ι) (hi : φ j) (hs : Sub (I j) l := by repeat (first | exact trivial | refine And.intro (by first | exact rfl | exact congrArg some (ci (by omega))) ?_)) (he : Ent H (HI j) := by exact ent) :
    SQ n ds (Exit.then (Mid n ds I (fun i w => φ i ∧ Sat w0 (HI i) w)) Q) .normal l w0 H := .mk fun _ h => q_mid j hs ⟨hi, h.ent he⟩

/-! #### Steps of a region -/
theorem s_nil (h : SQ n ds Q .normal l w0 H) : SL M P n ds ops Q .nil l w0 H := .mk fun w hs => l_nil (h.out w hs)
theorem s_alt {r s : Tr} (h1 : SL M P n ds ops Q r l w0 H) (h2 : SL M P n ds ops Q s l w0 H) : SL M P n ds ops Q (.alt r s) l w0 H := .mk fun w hs => l_alt (h1.out w hs) (h2.out w hs)
variable {b : Bool} {op : Op} {ty : TypeId} {pos : String} {af : Array Edge} {g : Option (Nat × Bool)}
/-- Does it look only? (A guard ahead of a dear search; nothing rests on it.) -/
def lk : Op → Bool
  | .move _ | .assign _ | .pick .. | .binOp .. | .unOp .. | .fieldAddr .. | .field .. | .indexAddr .. | .index .. | .load .. | .slice .. | .nilCheck _ | .extract .. | .build .. | .makeInterface .. | .makeFunc .. | .convert .. | .typeAssert .. => true
  | .call { callee := .builtin .len, .. } | .call { callee := .builtin .cap, .. } | .call { callee := .builtin .min, .. } | .call { callee := .builtin .max, .. } => true
  | _ => false
/-- It is a region's step; of one that draws. -/
theorem s_gL (h : SL M P n ds ops Q rest l w0 H) : SL M P n ds ops Q rest l w0 H := h
theorem s_gH {Hs : List Ck} (h : SL (.held Hs) P n ds ops Q rest l w0 H) : SL (.held Hs) P n ds ops Q rest l w0 H := h
theorem s_yS {d : Nat} {v : Value} (_hk : lk op = true) (hg : gOk ops l g = true) (hd : Nat.blt d n = true) (hy : Y P (Sat w0 H) ⟨some d, op, ty, pos, af, g⟩ l v)
    (h : SL .seq P n ds ops Q rest ((d, v) :: l) w0 H) : SL .seq P n ds ops Q (.one b ⟨some d, op, ty, pos, af, g⟩ rest) l w0 H :=
  .mk fun w hs => l_y hg hd (.mk fun w' hw' => by cases (hw' : w' = w); exact hy.out w hs) (h.out w hs)
theorem s_yH {Hs : List Ck} {d : Nat} {v : Value} (_hk : lk op = true) (hg : gOk ops l g = true) (hd : Nat.blt d n = true) (hy : Y P (Sat w0 Hs) ⟨some d, op, ty, pos, af, g⟩ l v)
    (h : SL (.held Hs) P n ds ops Q rest ((d, v) :: l) w0 H) : SL (.held Hs) P n ds ops Q (.one b ⟨some d, op, ty, pos, af, g⟩ rest) l w0 H :=
  .mk fun w hs => l_y hg hd (.mk fun w' hw' => hy.out w' hw') (h.out w hs)
/-- A look in a region that draws, where it stands alone. -/
theorem s_yA {Hs : List Ck} {d : Nat} {v : Value} (hg : gOk ops l g = true) (hd : Nat.blt d n = true) (hy : Y P (Sat w0 H) ⟨some d, op, ty, pos, af, g⟩ l v)
    (h : SL (.held Hs) P n ds ops Q rest ((d, v) :: l) w0 H) (hk : Chk (.held Hs) H) : SL (.held Hs) P n ds ops Q (.one false ⟨some d, op, ty, pos, af, g⟩ rest) l w0 H :=
  .mk fun w hs => l_act (Md.any (M := .held Hs) rfl) hg hd (.mk fun w' hw' => by cases hw'; exact hy.out w hs) (hk.out hs) (h.out w hs)
theorem s_sk {d : Nat} (hg : gNo ops l g = true) (hd : Nat.blt d n = true) (h : SL M P n ds ops Q rest ((d, undef) :: l) w0 H) : SL M P n ds ops Q (.one b ⟨some d, op, ty, pos, af, g⟩ rest) l w0 H := .mk fun w hs => l_sk hg hd (h.out w hs)
theorem s_lif {d j dj : Nat} {t : Bool} {p : Prop} [Decidable p] (hg : gd ops l j = some (dj, decide p))
    (hT : p → SL M P n ds ops Q (.one b ⟨some d, op, ty, pos, af, some (j, t)⟩ rest) ((dj, .bool true) :: l) w0 H) (hF : ¬ p → SL M P n ds ops Q (.one b ⟨some d, op, ty, pos, af, some (j, t)⟩ rest) ((dj, .bool false) :: l) w0 H) :
    SL M P n ds ops Q (.one b ⟨some d, op, ty, pos, af, some (j, t)⟩ rest) l w0 H := .mk fun w hs => l_if hg (fun h => (hT h).out w hs) (fun h => (hF h).out w hs)
theorem s_lifn {d j dj : Nat} {t : Bool} {p : Prop} [Decidable p] (hg : gd ops l j = some (dj, !decide p))
    (hT : ¬ p → SL M P n ds ops Q (.one b ⟨some d, op, ty, pos, af, some (j, t)⟩ rest) ((dj, .bool true) :: l) w0 H) (hF : p → SL M P n ds ops Q (.one b ⟨some d, op, ty, pos, af, some (j, t)⟩ rest) ((dj, .bool false) :: l) w0 H) :
    SL M P n ds ops Q (.one b ⟨some d, op, ty, pos, af, some (j, t)⟩ rest) l w0 H := .mk fun w hs => l_ifn hg (fun h => (hT h).out w hs) (fun h => (hF h).out w hs)
theorem s_lsp {d j dj : Nat} {t t' : Bool} (hg : gd ops l j = some (dj, t'))
    (hT : t' = true → SL M P n ds ops Q (.one b ⟨some d, op, ty, pos, af, some (j, t)⟩ rest) ((dj, .bool true) :: l) w0 H) (hF : t' = false → SL M P n ds ops Q (.one b ⟨some d, op, ty, pos, af, some (j, t)⟩ rest) ((dj, .bool false) :: l) w0 H) :
    SL M P n ds ops Q (.one b ⟨some d, op, ty, pos, af, some (j, t)⟩ rest) l w0 H := .mk fun w hs => l_sp hg (fun h => (hT h).out w hs) (fun h => (hF h).out w hs)
theorem s_rw {t : Nat} {v v' : Value} (h : look l t = some v) (e : v = v') (k : SL M P n ds ops Q rest ((t, v') :: l) w0 H) : SL M P n ds ops Q rest l w0 H := .mk fun w hs => l_rw h e (k.out w hs)
end

/-! ### Functions -/
/-- What a call leaves: its value and a list of pieces. -/
def RS (w0 : World) (R : Value → List Ck → Prop) : Value → World → Prop := fun v w => ∃ H', R v H' ∧ Sat w0 H' w
/-- A contract: called in any world of which the list holds. -/
def FnS (P : Program) (w0 : World) (H : List Ck) (k : FuncId) (args : Array Value) (R : Value → List Ck → Prop) : Prop := ∀ w, Sat w0 H w → Fn P k args w (RS w0 R)
/-- It gives this value, and nothing has turned. -/
def FnV (P : Program) (w0 : World) (H : List Ck) (k : FuncId) (args : Array Value) (v : Value) : Prop := FnS P w0 H k args fun v' H' => v' = v ∧ H' = H
section
variable {P : Program} {fn : Func} {R : Value → List Ck → Prop} {n : Nat} {l : List (Nat × Value)} {w0 : World} {H H' : List Ck}
theorem fns_enter {k : FuncId} {c : Code} {args : List Value} (hf : P.funcs[k]? = some fn) (hb : fn.body = some c) (hn : fn.ntmps = n) (hl : Nat.ble args.length n = true)
    (h : SC P n [] c (bodyPost P fn (RetR (RS w0 R))) (slots 0 args) w0 H) : FnS P w0 H k args.toArray R := fun w hs => fn_enter hf hb hn hl (h.out w hs)
theorem FnS.mono {k : FuncId} {args : Array Value} {R' : Value → List Ck → Prop} (h : FnS P w0 H k args R) (hr : ∀ v H', R v H' → R' v H') : FnS P w0 H k args R' :=
  fun w hs => (h w hs).mono fun _ _ ⟨H', h1, h2⟩ => ⟨H', hr _ _ h1, h2⟩
theorem FnS.ent {k : FuncId} {args : Array Value} (h : FnS P w0 H' k args R) (e : Ent H H') : FnS P w0 H k args R := fun w hs => h w (hs.ent e)
/-- A contract in the words of worlds: a value, nothing has turned. -/
theorem FnV.of {k : FuncId} {args : Array Value} {v : Value} (h : ∀ w, Sat w0 H w → Fn P k args w fun v' w' => v' = v ∧ Ex w w') : FnV P w0 H k args v :=
  fun w hs => (h w hs).mono fun _ _ ⟨h1, h2⟩ => ⟨H, ⟨h1, rfl⟩, hs.ex h2⟩
theorem FnV.of' {k : FuncId} {args : Array Value} {v : Value} (h : ∀ w, Sat w0 H w → Fn P k args w fun v' w' => v' = v ∧ w' = w) : FnV P w0 H k args v :=
  FnV.of fun w hs => (h w hs).mono fun _ _ ⟨h1, h2⟩ => ⟨h1, by rw [h2]; exact Ext.refl w⟩
theorem s_ret1 {t : Tmp} {v : Value} (hr : fn.results = #[.tmp t]) (hl : look l t = some v) (h : R v H') (he : Ent H H' := by exact ent) : SQ n [] (bodyPost P fn (RetR (RS w0 R))) .ret l w0 H :=
  .mk fun _ hs => q_ret1 hr hl ⟨H', h, hs.ent he⟩
theorem s_ret2 {t u : Tmp} {v v' : Value} (hr : fn.results = #[.tmp t, .tmp u]) (hl : look l t = some v) (hl' : look l u = some v') (h : R (.tuple #[v, v']) H') (he : Ent H H' := by exact ent) : SQ n [] (bodyPost P fn (RetR (RS w0 R))) .ret l w0 H :=
  .mk fun _ hs => q_ret2 hr hl hl' ⟨H', h, hs.ent he⟩
theorem s_ret0 (hr : fn.results = #[]) (h : R (.tuple #[]) H') (he : Ent H H' := by exact ent) : SQ n [] (bodyPost P fn (RetR (RS w0 R))) .ret l w0 H := .mk fun _ hs => q_ret0 hr ⟨H', h, hs.ent he⟩
theorem s_end0 (hr : fn.results = #[]) (h : R (.tuple #[]) H') (he : Ent H H' := by exact ent) : SQ n [] (bodyPost P fn (RetR (RS w0 R))) .normal l w0 H := .mk fun _ hs => q_end0 hr ⟨H', h, hs.ent he⟩
/-- A struct that lies in a variable is returned. -/
theorem s_retc {t : Tmp} {T : TypeId} {sz : Nat} [h : AgT P T sz] {k U : Nat} {vs : List Value} {H1 : List Ck} (hr : fn.results = #[.cell t T]) (hl : look l t = some (.pointer (some ⟨k, 0, none⟩))) (hB : At (.hb k U vs) (.hb k U vs) H H1) (hz : vs.length = sz)
    (hR : R (.agg vs.toArray) H') (he : Ent H H' := by exact ent) : SQ n [] (bodyPost P fn (RetR (RS w0 R))) .ret l w0 H := .mk fun _ hs => q_retc hr hl (Sat.hbOf hB hs) hz ⟨H', hR, hs.ent he⟩
end
end Go.Sx
