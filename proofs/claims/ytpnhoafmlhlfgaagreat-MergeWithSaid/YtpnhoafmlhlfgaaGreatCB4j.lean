/- Part of a proof: several parts of a walk, one behind the other. -/
import Derived.Test.YtpnhoafmlhlfgaaGreatCH1j
import Derived.Test.YtpnhoafmlhlfgaaGreatCO2j
import Derived.ChangeBookTie2
namespace Go.Sx
open Go Go.Proofs
/-- A type that is no interface. -/
class CcT (P : Program) (T : TypeId) : Prop where
  h : P.concrete T = true
/-- An interface. -/
class IfT (P : Program) (T : TypeId) : Prop where
  ok : (match P.underlying T with | some (.interface _) => true | _ => false) = true
/-- The method of a type by name. -/
class MtT (P : Program) (T : TypeId) (nm : String) (k : outParam FuncId) : Prop where
  run : ∀ (v : Value) (args : Array Value) (w : World), (callMethod (.iface T v) nm args).run P w = (callFunc k (#[v] ++ args)).run P w
section
variable {P : Program} {S : World → Prop} {l : List (Nat × Value)} {d : Option Tmp} {ty : TypeId} {pos : String} {af : Array Edge} {g : Option (Nat × Bool)}
theorem y_mkI {x : Operand} {T : TypeId} [h : CcT P T] {v : Value} (hx : ev l x = some v) : Y P S ⟨d, .makeInterface T x, ty, pos, af, g⟩ l (.iface T v) := .mk fun w _ ρ hρ => by
  simp [execOp, hρ _ _ hx, run_makeInterface w T v h.h]
theorem IfT.und {T : TypeId} (h : IfT P T) : ∃ ms, P.underlying T = some (.interface ms) := by
  have := h.ok
  split at this
  · exact ⟨_, by assumption⟩
  · cases this
theorem run_eqI (n : Nat) {T U : TypeId} {v : Value} {w : World} (h : IfT P T) : (Op.equalIn (n + 1) T (.iface U v) .nilIface).run P w = .ok false w := by
  obtain ⟨ms, hu⟩ := h.und
  simp [Op.equalIn, run_underlying hu]
theorem run_eqN (n : Nat) {T : TypeId} {w : World} (h : IfT P T) : (Op.equalIn (n + 1) T .nilIface .nilIface).run P w = .ok true w := by
  obtain ⟨ms, hu⟩ := h.und
  simp [Op.equalIn, run_underlying hu]
theorem run_neq_if {T U : TypeId} {v : Value} {w : World} (h : IfT P T) : (binOp .neq T (.iface U v) .nilIface).run P w = .ok (.bool true) w := by
  simp only [binOp]
  simp [show Op.equal T (.iface U v) .nilIface = Op.equalIn (9999 + 1) T (.iface U v) .nilIface from rfl, run_eqI (P := P) 9999 (v := v) h]
theorem run_neq_nil {T : TypeId} {w : World} (h : IfT P T) : (binOp .neq T .nilIface .nilIface).run P w = .ok (.bool false) w := by
  simp only [binOp]
  simp [show Op.equal T .nilIface .nilIface = Op.equalIn (9999 + 1) T .nilIface .nilIface from rfl, run_eqN (P := P) 9999 h]
theorem y_neI {x : Operand} {T U V : TypeId} [h : IfT P T] {v : Value} (hx : ev l x = some (.iface V v)) : Y P S ⟨d, .binOp .neq T x (.const .nilIface) U, ty, pos, af, g⟩ l (.bool true) := .mk fun w _ ρ hρ => by
  have h2 := hρ (.const .nilIface) _ rfl
  have h3 := run_neq_if (P := P) (U := V) (v := v) (w := w) h
  simp [execOp, hρ _ _ hx, h2, h3, eqGuard]
theorem y_neN {x : Operand} {T U : TypeId} [h : IfT P T] (hx : ev l x = some .nilIface) : Y P S ⟨d, .binOp .neq T x (.const .nilIface) U, ty, pos, af, g⟩ l (.bool false) := .mk fun w _ ρ hρ => by
  have h2 := hρ (.const .nilIface) _ rfl
  have h3 := run_neq_nil (P := P) (w := w) h
  simp [execOp, hρ _ _ hx, h2, h3, eqGuard_nil_constR]
end
section
variable {M : Md} {P : Program} {n : Nat} {ds : Dx} {ops : Array Oper} {Q : Exit → Act → World → Prop} {rest : Tr} {l : List (Nat × Value)} {w0 : World} {H : List Ck} {b : Bool} {ty : TypeId} {pos : String} {af : Array Edge} {g : Option (Nat × Bool)}
/-- A method by its name. -/
theorem s_inv {d : Nat} {k : FuncId} {x : Operand} {nm : String} {T : TypeId} {v0 : Value} {R : Value → List Ck → Prop} [hm : MtT P T nm k] [hf' : FnT P k] (hx : ev l x = some (.iface T v0)) (hf : FnS P w0 H k #[v0] R)
    (h : ∀ v H', R v H' → Chk M H' ∧ SL M P n ds ops Q rest ((d, v) :: l) w0 H') (hb : M.act b = true := by exact rfl) (hg : gOk ops l g = true := by exact rfl) (hd : Nat.blt d n = true := by exact rfl) :
    SL M P n ds ops Q (.one b ⟨some d, .call { callee := .invoke x nm, args := #[], argTypes := #[] }, ty, pos, af, g⟩ rest) l w0 H := .mk fun w hs => .mk fun a hfr => by
  unfold WL
  rw [if_pos (gOk_spec hg hfr)]
  refine .inr ⟨by simpa using Md.any hb, ?_⟩
  have : (execOp a.eval ⟨some d, .call { callee := .invoke x nm, args := #[], argTypes := #[] }, ty, pos, af, g⟩).run P w = .ok (.enter k #[v0]) w := by
    have h1 := hm.run v0 #[] w
    have h2 := hf'.run #[v0] w
    simp [execOp, resolve, hfr.agr _ _ hx, invoke, h1, h2]
  refine op_enter this (hf w hs) ?_
  rintro e w' ⟨v, rfl, H', h1, h2⟩
  exact ⟨(h v H' h1).1.out h2, ((h v H' h1).2.out w' h2).out _ (hfr.put v hd)⟩
end
instance : CcT Tryz.prog 106 := ⟨by kernel_rfl⟩
instance : CcT Tryz.prog 111 := ⟨by kernel_rfl⟩
instance : CcT Tryz.prog 114 := ⟨by kernel_rfl⟩
instance : IfT Tryz.prog 103 := ⟨by kernel_rfl⟩
instance : MtT Tryz.prog 106 "banyan/msg.says" 156 := ⟨fun v args w => by kernel_rfl⟩
instance : MtT Tryz.prog 111 "banyan/msg.says" 158 := ⟨fun v args w => by kernel_rfl⟩
instance : MtT Tryz.prog 114 "banyan/msg.says" 159 := ⟨fun v args w => by kernel_rfl⟩
end Go.Sx
namespace Go.Sx
open Go Go.Proofs
set_option maxRecDepth 10000

def sizedB (size : Int) : Bool := decide (size = 512) || decide (size = 1024) || decide (size = 2048) || decide (size = 4096)
theorem sizedB_bd {size : Int} (h : sizedB size = true) : 512 ≤ size ∧ size ≤ 4096 := by
  simp only [sizedB, Bool.or_eq_true, decide_eq_true_eq] at h
  omega
/-- Children: their pages, the keys between; where they lie. -/
structure Kd where
  pa : Option Addr
  pc : Nat
  ps : List Int
  ka : Option Addr
  kc : Nat
  ks : List SB
def Kd.cells (k : Kd) : List Value := [.slice k.pa k.ps.length k.pc, .slice k.ka k.ks.length k.kc]
abbrev Kd.keys (k : Kd) : List Bs := k.ks.map SB.xs
abbrev Kd.d (k : Kd) : List Int × List Bs := (k.ps, k.keys)
theorem Kd.kget {k : Kd} {i : Nat} {p : SB} (h : k.ks[i]? = some p) : k.keys[i]? = some p.xs := by simp [h]
instance : Cel Kd := ⟨2, Kd.cells, fun _ => rfl, fun _ => rfl, Nat.two_pos⟩
abbrev kd0 : Kd := ⟨none, 0, [], none, 0, []⟩
section
variable {w0 : World} {H : List Ck}
/-- They can be read. -/
structure RKd (w0 : World) (H : List Ck) (k : Kd) : Prop where
  ps : RSl w0 H k.pa k.pc k.ps
  ks : RSl w0 H k.ka k.kc k.ks
  el : ∀ p ∈ k.ks, RBy w0 H p.a p.c p.xs
theorem RKd.tl {k : Kd} {d : Ck} (h : RKd w0 H k) : RKd w0 (d :: H) k := ⟨h.ps.tl, h.ks.tl, fun p hp => (h.el p hp).tl⟩
theorem RKd.ent {k : Kd} {H' : List Ck} (h : RKd w0 H' k) (e : Ent H H') : RKd w0 H k := ⟨h.ps.ent e, h.ks.ent e, fun p hp => (h.el p hp).ent e⟩
theorem RKd.nil : RKd w0 H kd0 := ⟨RSl.nil, RSl.nil, fun _ h => by cases h⟩
/-- Children of one's own. -/
@[reducible] def oK (k : Kd) : Ck := .star [ol 3 k.pa k.pc k.ps, ol 49 k.ka k.kc k.ks, fam 5 k.ks]
theorem RKd.oK {k : Kd} : RKd w0 (oK k :: H) k :=
  ⟨RSl.ent RSl.hd (Ent.mem' (c := ol 3 k.pa k.pc k.ps) (by simp)), RSl.ent RSl.hd (Ent.mem' (c := ol 49 k.ka k.kc k.ks) (by simp)), fun _ hp => RBy.ent RBy.hd ((Ent.mem' (c := fam 5 k.ks) (by simp)).trans (fam_mem hp))⟩
theorem rkd {k : Kd} (h : RKd w0 H k := by (repeat (first | assumption | exact RKd.oK | exact RKd.nil | apply RKd.tl)); first | done | fail) : RKd w0 H k := h
theorem Kn.kp {k : Kd} (h : RKd w0 H k) : Kn w0 H (k.ps.length ≤ k.pc ∧ k.pc ≤ maxLen) := Kn.sl h.ps
theorem Kn.kk {k : Kd} (h : RKd w0 H k) : Kn w0 H (k.ks.length ≤ k.kc ∧ k.kc ≤ maxLen) := Kn.sl h.ks
end
/-! ### Plain -/
def keysB (ks : List Bs) : Nat := (ks.map fun x => 2 + x.length).sum
theorem keysB_snoc (ks : List Bs) (x : Bs) : keysB (ks ++ [x]) = keysB ks + (2 + x.length) := by simp [keysB]
theorem keysB_app (ks ls : List Bs) : keysB (ks ++ ls) = keysB ks + keysB ls := by simp [keysB]
theorem keysB_take (ks : List Bs) (i : Nat) : keysB (ks.take i) ≤ keysB ks := by
  conv => rhs; rw [← List.take_append_drop i ks, keysB_app]
  omega
theorem keysB_get {ks : List Bs} {i : Nat} {x : Bs} (h : ks[i]? = some x) : keysB (ks.take (i + 1)) = keysB (ks.take i) + (2 + x.length) := by
  rw [← keysB_snoc]; congr 1
  obtain ⟨hi, rfl⟩ := List.getElem?_eq_some_iff.1 h
  exact (List.take_append_getElem hi).symm
def bytesK (d : List Int × List Bs) : Nat := 2 + 4 * d.1.length + keysB d.2
/-- The first key that is above. -/
def chl (ks : List Bs) (key : Bs) : Nat := ks.findIdx fun x => decide (0 < cmp x key)
end Go.Sx
namespace Go.Sx
open Go Go.Proofs
set_option maxRecDepth 10000
variable {w0 : World} {H : List Ck}
theorem chl_ge {ks : List Bs} {key : Bs} {i : Nat} (h : ∀ j x, j < i → ks[j]? = some x → ¬ 0 < cmp x key) (hi : i ≤ ks.length) : i ≤ chl ks key := by
  unfold chl
  rcases Nat.lt_or_ge (ks.findIdx fun x => decide (0 < cmp x key)) i with h1 | h1
  · exfalso
    have h2 : (ks.findIdx fun x => decide (0 < cmp x key)) < ks.length := by omega
    have := List.findIdx_getElem (w := h2)
    exact h _ _ h1 (List.getElem?_eq_getElem h2) (of_decide_eq_true this)
  · exact h1
theorem chl_eq {ks : List Bs} {key : Bs} {i : Nat} {x : Bs} (h : ∀ j x, j < i → ks[j]? = some x → ¬ 0 < cmp x key) (hx : ks[i]? = some x) (hc : 0 < cmp x key) : chl ks key = i := by
  have h1 := chl_ge h (Nat.le_of_lt (get_lt' hx))
  refine Nat.le_antisymm ?_ h1
  unfold chl
  have hi := get_lt' hx
  have : ks[i] = x := by rw [List.getElem?_eq_getElem hi] at hx; exact Option.some.inj hx
  refine Nat.le_of_not_lt fun hlt => ?_
  have h2 := List.not_of_lt_findIdx hlt
  simp only [this, decide_eq_false_iff_not] at h2
  exact h2 hc
end Go.Sx
namespace Go.Sx
open Go Go.Proofs
set_option maxRecDepth 10000
variable {w0 : World} {H : List Ck}
/-- Pages that may be children. -/
abbrev PgOk (ps : List Int) : Prop := ps.Nodup ∧ ∀ n ∈ ps, 2 ≤ n ∧ n < 65536
abbrev KyOk (size : Int) (ks : List Bs) : Prop := ∀ x ∈ ks, 1 ≤ x.length ∧ (x.length : Int) ≤ size / 16
def risK : List Bs → Bool
  | x :: y :: r => decide (cmp x y < 0) && risK (y :: r)
  | _ => true
theorem risK_iff : ∀ {ks : List Bs}, risK ks = true ↔ ∀ i x y, ks[i]? = some x → ks[i + 1]? = some y → cmp x y < 0
  | [] => by simp [risK]
  | [x] => by
    simp only [risK, true_iff]
    intro i a b h1 h2
    simp at h2
  | x :: y :: r => by
    simp only [risK, Bool.and_eq_true, decide_eq_true_eq, risK_iff (ks := y :: r)]
    constructor
    · rintro ⟨h1, h2⟩ i a b ha hb
      cases i with
      | zero => simp at ha hb; subst ha; subst hb; exact h1
      | succ i => exact h2 i a b (by simpa using ha) (by simpa using hb)
    · intro h
      exact ⟨h 0 x y rfl rfl, fun i a b ha hb => h (i + 1) a b (by simpa using ha) (by simpa using hb)⟩
def chkK (size : Int) (d : List Int × List Bs) : Int :=
  if sizedB size = false then 1
  else if ¬ (d.2.length + 1 = d.1.length ∧ 2 ≤ d.1.length ∧ PgOk d.1) then 61
  else if ¬ KyOk size d.2 then 62
  else if risK d.2 = false then 63
  else if size - 32 < (bytesK d : Int) then 64
  else 0
theorem chkK_1 {size : Int} {d : List Int × List Bs} (h : sizedB size = false) : chkK size d = 1 := by rw [chkK, if_pos h]
theorem chkK_61 {size : Int} {d : List Int × List Bs} (h : sizedB size = true) (h1 : ¬ (d.2.length + 1 = d.1.length ∧ 2 ≤ d.1.length ∧ PgOk d.1)) : chkK size d = 61 := by
  rw [chkK, if_neg (by simp [h]), if_pos h1]
theorem chkK_62 {size : Int} {d : List Int × List Bs} (h : sizedB size = true) (h1 : d.2.length + 1 = d.1.length ∧ 2 ≤ d.1.length ∧ PgOk d.1) (h2 : ¬ KyOk size d.2) : chkK size d = 62 := by
  rw [chkK, if_neg (by simp [h]), if_neg (by simpa using h1), if_pos h2]
theorem chkK_63 {size : Int} {d : List Int × List Bs} (h : sizedB size = true) (h1 : d.2.length + 1 = d.1.length ∧ 2 ≤ d.1.length ∧ PgOk d.1) (h2 : KyOk size d.2) (h3 : risK d.2 = false) : chkK size d = 63 := by
  rw [chkK, if_neg (by simp [h]), if_neg (by simpa using h1), if_neg (fun h => h h2), if_pos h3]
theorem chkK_e {size : Int} {d : List Int × List Bs} (h : sizedB size = true) (h1 : d.2.length + 1 = d.1.length ∧ 2 ≤ d.1.length ∧ PgOk d.1) (h2 : KyOk size d.2) (h3 : risK d.2 = true) : chkK size d = if size - 32 < (bytesK d : Int) then 64 else 0 := by
  rw [chkK, if_neg (by simp [h]), if_neg (by simpa using h1), if_neg (fun h => h h2), if_neg (by simp [h3])]
theorem chkK_0 {size : Int} {d : List Int × List Bs} (h : chkK size d = 0) : sizedB size = true ∧ (d.2.length + 1 = d.1.length ∧ 2 ≤ d.1.length ∧ PgOk d.1) ∧ KyOk size d.2 ∧ risK d.2 = true ∧ (bytesK d : Int) ≤ size - 32 := by
  unfold chkK at h
  split at h
  · cases h
  split at h
  · cases h
  split at h
  · cases h
  split at h
  · cases h
  split at h
  · cases h
  rename_i a b c d e
  exact ⟨by simpa using a, Decidable.not_not.1 b, Decidable.not_not.1 c, by simpa using d, by omega⟩
/-- Of how many bytes keys are that are good. -/
theorem ky_bd {size : Int} (hs : sizedB size = true) : ∀ {ks : List Bs}, KyOk size ks → keysB ks ≤ 258 * ks.length
  | [], _ => by simp [keysB]
  | x :: r, h => by
    have h1 := h x (by simp)
    have h2 := ky_bd hs (ks := r) (fun y hy => h y (by simp [hy]))
    have h3 := sizedB_bd hs
    simp only [keysB, List.map_cons, List.sum_cons, List.length_cons] at *
    omega
theorem pg_bd {ps : List Int} (h : PgOk ps) : ps.length ≤ 65536 := by
  have h1 : (ps.map Int.toNat).Nodup := List.pairwise_map.2 (h.1.imp_of_mem fun ha hb hne e => hne (by have := h.2 _ ha; have := h.2 _ hb; omega))
  have := nodup_lt_length 65536 _ h1 (fun x hx => by
    obtain ⟨n, hn, rfl⟩ := List.mem_map.1 hx
    have := h.2 n hn
    omega)
  rwa [List.length_map] at this
theorem nodup_snoc {ps : List Int} {i : Nat} {a : Int} (h : (ps.take i).Nodup) (ha : ps[i]? = some a) (hn : a ∉ ps.take i) : (ps.take (i + 1)).Nodup := by
  rw [snocT ha]
  exact List.nodup_append.2 ⟨h, by simp, fun x hx y hy => by rw [List.mem_singleton.1 hy]; exact fun e => hn (by rw [← e]; exact hx)⟩
theorem nodup_take {ps : List Int} (h : ps.Nodup) (i : Nat) : (ps.take i).Nodup := List.Pairwise.sublist (List.take_sublist _ _) h
/-- How often a page came. -/
def cntF (ps : List Int) (i : Nat) : Int → Value := fun n => .int .i64 (((ps.take i).count n : Nat) : Int)
theorem cntF_succ {ps : List Int} {i : Nat} {a : Int} (h : ps[i]? = some a) : (fun j => if j = a then Value.int .i64 ((((ps.take i).count a : Nat) : Int) + 1) else cntF ps i j) = cntF ps (i + 1) := by
  funext j
  by_cases e : j = a
  · subst e
    simp only [if_true, cntF, snocT h, List.count_append]
    exact ci (by simp)
  · simp only [if_neg e, cntF, snocT h, List.count_append]
    exact ci (by simp [Ne.symm e])
end Go.Sx
namespace Go.Sx
open Go Go.Proofs
set_option maxRecDepth 10000
variable {w0 : World} {H : List Ck}
/-- Numbers that rise, the same ones. -/
structure Srt (xs ys : List Int) : Prop where
  perm : ys.Perm xs
  rise : ys.Pairwise (· ≤ ·)
structure MgI where
  i : Nat
  j : Nat
  a : Option Addr
  c : Nat
  out : List Int
structure MgI.ok (m : MgI) (us vs : List Int) : Prop where
  hi : m.i ≤ us.length
  hj : m.j ≤ vs.length
  perm : m.out.Perm (us.take m.i ++ vs.take m.j)
  rise : m.out.Pairwise (· ≤ ·)
  la : ∀ x ∈ m.out, ∀ y ∈ us.drop m.i, x ≤ y
  lb : ∀ x ∈ m.out, ∀ y ∈ vs.drop m.j, x ≤ y
theorem dropC {α : Type} {l : List α} {i : Nat} {x : α} (h : l[i]? = some x) : l.drop i = x :: l.drop (i + 1) := by
  obtain ⟨hi, rfl⟩ := List.getElem?_eq_some_iff.1 h
  exact List.drop_eq_getElem_cons hi
theorem rise_drop {l : List Int} (h : l.Pairwise (· ≤ ·)) {i : Nat} {x : Int} (hx : l[i]? = some x) : ∀ y ∈ l.drop (i + 1), x ≤ y := by
  have := List.Pairwise.sublist (List.drop_sublist i l) h
  rw [dropC hx] at this
  exact (List.pairwise_cons.1 this).1
theorem MgI.left {m : MgI} {us vs : List Int} (h : m.ok us vs) (ha : us.Pairwise (· ≤ ·)) {x : Int} (hx : us[m.i]? = some x) (hle : ∀ y ∈ vs.drop m.j, x ≤ y) {a : Option Addr} {c : Nat} : MgI.ok ⟨m.i + 1, m.j, a, c, m.out ++ [x]⟩ us vs := by
  have hd := dropC hx
  refine ⟨get_lt' hx, h.hj, ?_, ?_, ?_, ?_⟩
  · simp only [snocT hx]
    refine (h.perm.append_right [x]).trans ?_
    rw [List.append_assoc, List.append_assoc]
    exact List.Perm.append_left _ List.perm_append_comm
  · refine List.pairwise_append.2 ⟨h.rise, by simp, fun y hy z hz => ?_⟩
    rw [List.mem_singleton.1 hz]
    exact h.la y hy x (by rw [hd]; simp)
  · intro y hy z hz
    rcases List.mem_append.1 hy with h1 | h1
    · exact h.la y h1 z (by rw [hd]; exact List.mem_cons_of_mem _ hz)
    · rw [List.mem_singleton.1 h1]; exact rise_drop ha hx z hz
  · intro y hy z hz
    rcases List.mem_append.1 hy with h1 | h1
    · exact h.lb y h1 z hz
    · rw [List.mem_singleton.1 h1]; exact hle z hz
theorem MgI.right {m : MgI} {us vs : List Int} (h : m.ok us vs) (hb : vs.Pairwise (· ≤ ·)) {x : Int} (hx : vs[m.j]? = some x) (hle : ∀ y ∈ us.drop m.i, x ≤ y) {a : Option Addr} {c : Nat} : MgI.ok ⟨m.i, m.j + 1, a, c, m.out ++ [x]⟩ us vs := by
  have hd := dropC hx
  refine ⟨h.hi, get_lt' hx, ?_, ?_, ?_, ?_⟩
  · simp only [snocT hx]
    rw [← List.append_assoc]
    exact h.perm.append_right [x]
  · refine List.pairwise_append.2 ⟨h.rise, by simp, fun y hy z hz => ?_⟩
    rw [List.mem_singleton.1 hz]
    exact h.lb y hy x (by rw [hd]; simp)
  · intro y hy z hz
    rcases List.mem_append.1 hy with h1 | h1
    · exact h.la y h1 z hz
    · rw [List.mem_singleton.1 h1]; exact hle z hz
  · intro y hy z hz
    rcases List.mem_append.1 hy with h1 | h1
    · exact h.lb y h1 z (by rw [hd]; exact List.mem_cons_of_mem _ hz)
    · rw [List.mem_singleton.1 h1]; exact rise_drop hb hx z hz
theorem drop_le {l : List Int} (h : l.Pairwise (· ≤ ·)) {i : Nat} {x y : Int} (hx : l[i]? = some x) (hy : y ≤ x) : ∀ z ∈ l.drop i, y ≤ z := by
  rw [dropC hx]
  intro z hz
  rcases List.mem_cons.1 hz with rfl | h1
  · exact hy
  · exact Int.le_trans hy (rise_drop h hx z h1)
end Go.Sx
namespace Go.Sx
open Go Go.Proofs
set_option maxRecDepth 10000
variable {w0 : World} {H : List Ck}
def two2 (n : Int) : Bs := [UInt8.ofInt (n / 256), UInt8.ofInt n]
def four4 (n : Int) : Bs := [UInt8.ofInt (n / 16777216), UInt8.ofInt (n / 65536), UInt8.ofInt (n / 256), UInt8.ofInt n]
def keyE (x : Bs) : Bs := two2 x.length ++ x
def encK (d : List Int × List Bs) : Bs := two2 d.1.length ++ d.1.flatMap four4 ++ d.2.flatMap keyE
def encR (size : Int) (d : List Int × List Bs) : Bs := if chkK size d = 0 then encK d else []
theorem flatS {α β : Type} (f : α → List β) {l : List α} {i : Nat} {x : α} (h : l[i]? = some x) : (l.take (i + 1)).flatMap f = (l.take i).flatMap f ++ f x := by
  rw [snocT h, List.flatMap_append]; simp
theorem fourL (ps : List Int) : (ps.flatMap four4).length = 4 * ps.length := by
  induction ps with
  | nil => rfl
  | cons x r ih => simp only [List.flatMap_cons, List.length_append, ih, List.length_cons, four4, List.length_nil]; omega
theorem keyL (ks : List Bs) : (ks.flatMap keyE).length = keysB ks := by
  induction ks with
  | nil => rfl
  | cons x r ih => simp only [List.flatMap_cons, List.length_append, ih, keyE, two2, List.length_cons, List.length_nil, keysB, List.map_cons, List.sum_cons]
theorem encK_len (d : List Int × List Bs) : (encK d).length = bytesK d := by
  simp only [encK, List.length_append, fourL, keyL, two2, List.length_cons, List.length_nil, bytesK]
abbrev EncR (size : Int) (d : List Int × List Bs) (H : List Ck) : Value → List Ck → Prop := fun v H' => ∃ a c, v = .tuple #[.slice a (encR size d).length c, .int .i64 (chkK size d)] ∧ H' = ob a c (encR size d) :: H
theorem ofInt_mod {n : Int} : UInt8.ofInt (n % 65536) = UInt8.ofInt n := by
  simp only [UInt8.ofInt]
  rw [Int.emod_emod_of_dvd n (by decide : (2 ^ 8 : Int) ∣ 65536)]
theorem ofInt_mod2 {n : Int} : UInt8.ofInt (n % 65536 / 256) = UInt8.ofInt (n / 256) := by
  have : (n % 65536 / 256) % 256 = (n / 256) % 256 := by omega
  simp only [UInt8.ofInt]
  have e : (2 ^ 8 : Int) = 256 := rfl
  rw [e, this]
theorem four_two {n : Int} (h : 0 ≤ n) : two2 (n / 65536) ++ two2 (n % 65536) = four4 n := by
  have : n / 65536 / 256 = n / 16777216 := by omega
  simp only [two2, four4, this, ofInt_mod, ofInt_mod2]
  rfl
end Go.Sx
