/- Part of a proof: several parts of a walk, one behind the other. -/
import Derived.Test.YtpnhoafmlhlfgaaCKB
import Derived.Test.YtpnhoafmlhlfgaaCMMj
namespace Go.Sx
open Go Go.Proofs
set_option maxRecDepth 10000
variable {w0 : World} {H : List Ck}
abbrev fx (x : UInt8) : UInt8 := x ^^^ 1
/-- Bytes with the marks behind them. -/
abbrev lm (xs : Bs) : Bs := xs ++ [251, 252]
def wx (xs : Bs) (i : Nat) : Bs := (xs.take i).map fx ++ (xs.drop i ++ [251, 252])
theorem wx_len (xs : Bs) {i : Nat} (h : i ≤ xs.length) : (wx xs i).length = xs.length + 2 := by
  simp [wx]
  omega
theorem wx_step {xs : Bs} {i : Nat} (h : i < xs.length) : (wx xs i).set i ((wx xs i).getD i 0 ^^^ 1) = wx xs (i + 1) := by
  obtain ⟨x, hx⟩ := get_lt xs i h
  have hl : ((xs.take i).map fx).length = i := by simp; omega
  have hd : xs.drop i = x :: xs.drop (i + 1) := by
    obtain ⟨h1, h2⟩ := List.getElem?_eq_some_iff.1 hx
    rw [List.drop_eq_getElem_cons h1, h2]
  have e : (wx xs i).getD i 0 = x := by
    rw [wx, hd, List.getD_eq_getElem?_getD, List.getElem?_append_right (by omega), hl, Nat.sub_self]
    rfl
  rw [e, wx, wx, hd, List.set_append_right _ _ (by omega), hl, Nat.sub_self, snocT hx, List.map_append, List.append_assoc]
  rfl
theorem lent_s {xs : Bs} {a : Option Addr} {c : Nat} (ha : RBy w0 H a c xs) (h1 : xs.length ≤ 140737488351232) : FnS Try.prog w0 H 37 #[.slice a xs.length c] (fun v H' => ∃ a' c', v = .slice a' xs.length c' ∧ H' = ob a' c' (lm xs) :: H) := by
  refine fns_enter Try.func37 rfl rfl rfl ?_
  refine s_kn (Kn.by ha) fun l1 => ?_
  simp only [maxLen] at l1
  refine sx ?_
  refine s_rw (t := 6) (v' := .int .i64 ((xs.length + 2 : Nat) : Int)) rfl (ci (by omega)) ?_
  refine s_make0 (α := UInt8) rfl rfl (by omega) fun b => ?_
  refine sx ?_
  refine s_app (ys := xs) ?_
  intro a1 c1
  refine sx ?_
  refine s_bsl ([251, 252] : List UInt8) rfl rfl fun k3 => ?_
  refine sx ?_
  refine s_app (xs := [] ++ xs) (ys := [251, 252]) ?_
  intro a2 c2
  rw [List.nil_append]
  refine s_knL (Kn.by (a := a2) (c := c2) (xs := xs ++ [251, 252]) (by exact rby)) fun l2 => ?_
  simp only [maxLen, List.length_append, List.length_cons, List.length_nil] at l2
  refine sx ?_
  exact s_ret1 rfl rfl ⟨a2, c2, rfl, rfl⟩
theorem kept_s {xs : Bs} {a a' : Option Addr} {c c' : Nat} (ha : RBy w0 H a c xs) : FnS Try.prog w0 (ob a' c' (lm xs) :: H) 38 #[.slice a' xs.length c', .slice a xs.length c] (fun v H' => v = .bool true ∧ H' = ob a' c' (lm (xs.map fx)) :: H) := by
  have hx0 : ∀ H0, RBy w0 (ob a' c' (lm xs) :: H0) a' c' xs := fun H0 => by
    have := (RBy.hd (w0 := w0) (E := 5) (a := a') (c := c') (xs := lm xs) (H := H0)).take (k := xs.length) (by simp)
    rwa [lm, List.take_left] at this
  have hll : (lm xs).length = xs.length + 2 := by simp [lm]
  refine fns_enter Try.func38 rfl rfl rfl ?_
  refine s_kn (Kn.by (RBy.hd (w0 := w0) (E := 5) (a := a') (c := c') (xs := lm xs) (H := H))) fun l1 => ?_
  simp only [maxLen] at l1
  refine sx ?_
  refine s_rw (t := 13) (v' := .int .i64 (((lm xs).length : Nat) : Int)) rfl (ci (by omega)) ?_
  refine sx ?_
  refine s_yS rfl rfl rfl (y_st (xs := xs) rfl (hx0 H)) ?_
  refine sx ?_
  refine s_gT rfl (by rw [decide_eq_true_eq, lm, List.getD_eq_getElem?_getD, List.getElem?_append_right (Nat.le_refl _), Nat.sub_self]; rfl) ?_
  refine sx ?_
  refine s_rwC (t := 7) (v' := .bool true) rfl (congrArg Value.bool (by rw [decide_eq_true_eq, lm, List.getD_eq_getElem?_getD, List.getElem?_append_right (Nat.le_add_right _ _), Nat.add_sub_cancel_left]; rfl)) ?_
  refine s_rwC (t := 6) (v' := .slice a' (xs.length + 2) c') rfl (by rw [hll]) ?_
  refine s_loop (fun i : Nat => [(5, .int .i64 xs.length), (6, .slice a' (xs.length + 2) c'), (7, .bool true), (8, .int .i64 i)]) (fun i => ob a' c' (wx xs i) :: H) (fun i => i ≤ xs.length) (fun i => xs.length - i) 0 (Nat.zero_le _) ?_
  intro i hi
  refine sx ?_
  refine s_if rfl (fun t1 => ?_) (fun t1 => ?_)
  · have hw := wx_len xs hi
    refine s_rwC (t := 6) (v' := .slice a' (wx xs i).length c') rfl (by rw [hw]) ?_
    clear hx0
    refine sx ?_
    refine s_yS rfl rfl rfl (y_xorb (b := 1) rfl rfl) ?_
    refine sx ?_
    refine s_set1g (i := i) (y := (wx xs i).getD i 0 ^^^ 1) rfl rfl (by exact at_) rfl (by omega) ?_
    rw [wx_step (by omega)]
    refine sx ?_
    refine s_rwQ (t := 6) (v' := .slice a' (xs.length + 2) c') rfl (by rw [hw]) ?_
    exact s_again (i + 1) (by omega) (by omega)
  · obtain rfl : i = xs.length := by omega
    refine sx ?_
    refine s_ret1 rfl rfl ⟨rfl, rfl⟩ ?_
    rw [wx, List.take_length, List.drop_length, List.nil_append]
    exact Ent.refl
end Go.Sx
namespace Go.Sx
open Go Go.Proofs
set_option maxRecDepth 10000
variable {w0 : World} {H : List Ck}
/-- A string. -/
structure St where
  xs : Bs
@[reducible] def St.val (s : St) : Value := str s.xs
instance : Cel St := ⟨1, fun x => [x.val], fun _ => rfl, fun _ => rfl, Nat.one_pos⟩
instance : ElT Try.prog 9 St := ⟨trivial⟩
/-- A lot: the book in it; the two lists ahead of it as they may be. -/
structure Ob where
  k : Nat
  sf : List Value
  la : Option Addr
  lc : Nat
  ls : List SB
  wa : Option Addr
  wc : Nat
  ws : List St
def Ob.cells (B : Ob) : List Value := .slice B.la B.ls.length B.lc :: .slice B.wa B.ws.length B.wc :: B.sf
def Ob.pieces (B : Ob) : List Ck := [.hb B.k 50 B.cells, ol 24 B.la B.lc B.ls, ol 9 B.wa B.wc B.ws, fam 5 B.ls]
abbrev Ob.ck (B : Ob) : Ck := .star B.pieces
theorem Ob.open {B : Ob} : Ent (B.ck :: H) (B.pieces ++ H) := Ent.open Ent.refl
theorem Ob.shut {B : Ob} : Ent (B.pieces ++ H) (B.ck :: H) := Ent.star Ent.refl
theorem hold_s {B : Ob} {a a2 : Option Addr} {c c2 : Nat} {xs ys : Bs} (hl : B.ls.length ≤ 1099511627776 ∧ B.ws.length ≤ 1099511627776) (hy : RBy w0 H a2 c2 ys) :
    FnS Try.prog w0 (ob a c xs :: B.ck :: H) 39 #[.pointer (some ⟨B.k, 0, none⟩), .slice a xs.length c, .slice a2 ys.length c2]
      (fun _ H' => ∃ la lc wa wc, H' = Ob.ck { B with la := la, lc := lc, ls := B.ls ++ [⟨a, c, xs⟩], wa := wa, wc := wc, ws := B.ws ++ [⟨ys⟩] } :: H) := by
  obtain ⟨K, sf, la, lc, ls, wa, wc, ws⟩ := B
  simp only at hl ⊢
  refine fns_enter Try.func39 rfl rfl rfl ?_
  refine s_ent (.hb K 50 (.slice la ls.length lc :: .slice wa ws.length wc :: sf) :: ol 24 la lc ls :: ol 9 wa wc ws :: fam 5 ls :: ob a c xs :: H) ?_ ?_
  · refine (Ent.perm (.swap _ _ _)).trans ?_
    refine Ob.open.trans ?_
    exact ent
  refine sx ?_
  refine s_bsl [(⟨a, c, xs⟩ : SB)] rfl rfl fun b9 => ?_
  refine s_app ?_
  intro la' lc'
  refine sx ?_
  refine sx ?_; refine s_drH (H) (.one true 0 (.one true 1 (.one true 2 (.one true 3 (.one true 5 (.one true 6 (.alt (.one false 4 (.one false 7 (.one false 8 (.one true 9 (.one true 10 (.one false 11 .nil)))))) (.one false 7 (.one false 4 (.one false 8 (.one true 9 (.one true 10 (.one false 11 .nil))))))))))))) mixed (by kernel_rfl) ?_; refine sx ?_
  refine s_alt ?_ ?_
  · refine s_yA rfl rfl (by exact yy) ?_ (chk_held (by exact ent))
    refine s_bsl [(⟨ys⟩ : St)] rfl rfl fun b11 => ?_
    refine s_app ?_
    intro wa' wc'
    refine sx ?_
    refine s_end0 rfl ⟨la', lc', wa', wc', rfl⟩ ?_
    refine Ent.trans ?_ Ob.shut
    refine Ent.cons (by exact rm) ?_
    refine Ent.cons (by exact rm) ?_
    refine Ent.cons (by exact rm) ?_
    refine Ent.famS (by exact rm) (by exact rm) ?_
    exact ent
  · refine s_bsl [(⟨ys⟩ : St)] rfl rfl fun b11 => ?_
    refine s_yA rfl rfl (by exact yy) ?_ (chk_held (by exact ent))
    refine s_app ?_
    intro wa' wc'
    refine sx ?_
    refine s_end0 rfl ⟨la', lc', wa', wc', rfl⟩ ?_
    refine Ent.trans ?_ Ob.shut
    refine Ent.cons (by exact rm) ?_
    refine Ent.cons (by exact rm) ?_
    refine Ent.cons (by exact rm) ?_
    refine Ent.famS (by exact rm) (by exact rm) ?_
    exact ent
end Go.Sx
