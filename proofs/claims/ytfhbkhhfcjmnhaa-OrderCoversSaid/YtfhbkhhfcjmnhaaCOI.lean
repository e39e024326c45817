/- Part of a proof: bytes that are lent, with marks behind them. -/
import Derived.Test.YtfhbkhhfcjmnhaaCOE
import Derived.Test.YtfhbkhhfcjmnhaaCOA
namespace Go.Sx
open Go Go.Proofs
set_option maxRecDepth 10000
section
variable {P : Program} {S : World → Prop} {l : List (Nat × Value)} {d : Option Tmp} {ty : TypeId} {pos : String} {af : Array Edge} {g : Option (Nat × Bool)}
theorem y_subb {x y : Operand} {T U : TypeId} {a b : UInt8} (hx : ev l x = some (bv a)) (hy : ev l y = some (bv b)) :
    Y P S ⟨d, .binOp .sub T x y U, ty, pos, af, g⟩ l (bv (a - b)) := .mk fun w _ ρ hρ => by
  have e : IntKind.u8.wrap ((a.toNat : Int) - (b.toNat : Int)) = ((a - b).toNat : Int) := by
    have h1 := a.toNat_lt
    have h2 := b.toNat_lt
    rw [UInt8.toNat_sub]
    simp only [IntKind.wrap_u8]
    omega
  simp [execOp, hρ _ _ hx, hρ _ _ hy, go_sem, Op.intArith, bv, e]
end
variable {w0 : World} {H : List Ck}
abbrev fl (x : UInt8) : UInt8 := 255 - x
/-- Bytes with the marks behind them. -/
abbrev lm (xs : Bs) : Bs := xs ++ [251, 252]
def ws (xs : Bs) (i : Nat) : Bs := (xs.take i).map fl ++ (xs.drop i ++ [251, 252])
theorem ws_len (xs : Bs) {i : Nat} (h : i ≤ xs.length) : (ws xs i).length = xs.length + 2 := by
  simp [ws]
  omega
theorem ws_step {xs : Bs} {i : Nat} (h : i < xs.length) : (ws xs i).set i (255 - (ws xs i).getD i 0) = ws xs (i + 1) := by
  obtain ⟨x, hx⟩ := get_lt xs i h
  have hl : ((xs.take i).map fl).length = i := by simp; omega
  have hd : xs.drop i = x :: xs.drop (i + 1) := by
    obtain ⟨h1, h2⟩ := List.getElem?_eq_some_iff.1 hx
    rw [List.drop_eq_getElem_cons h1, h2]
  have e : (ws xs i).getD i 0 = x := by
    rw [ws, hd, List.getD_eq_getElem?_getD, List.getElem?_append_right (by omega), hl, Nat.sub_self]
    rfl
  rw [e, ws, ws, hd, List.set_append_right _ _ (by omega), hl, Nat.sub_self, snocT hx, List.map_append, List.append_assoc]
  rfl
theorem lent_s {xs : Bs} {a : Option Addr} {c : Nat} (ha : RBy w0 H a c xs) (h1 : xs.length ≤ 140737488351232) : FnS Try.prog w0 H 25 #[.slice a xs.length c] (fun v H' => ∃ a' c', v = .slice a' xs.length c' ∧ H' = ob a' c' (lm xs) :: H) := by
  refine fns_enter Try.func25 rfl rfl rfl ?_
  refine s_kn (Kn.by ha) fun l1 => ?_
  simp only [maxLen] at l1
  refine sx ?_
  refine s_rw (t := 6) (v' := .int .i64 ((xs.length + 2 : Nat) : Int)) rfl (ci (by omega)) ?_
  refine s_make0 (α := UInt8) rfl rfl (by omega) fun b => ?_
  refine sx ?_
  refine s_app (ys := xs) ?_
  intro a1 c1
  refine sx ?_
  refine s_bsl ([251, 252] : List UInt8) rfl rfl fun k3 => ?_
  refine sx ?_
  refine s_app (xs := [] ++ xs) (ys := [251, 252]) ?_
  intro a2 c2
  rw [List.nil_append]
  refine s_knL (Kn.by (a := a2) (c := c2) (xs := xs ++ [251, 252]) (by exact rby)) fun l2 => ?_
  simp only [maxLen, List.length_append, List.length_cons, List.length_nil] at l2
  refine sx ?_
  exact s_ret1 rfl rfl ⟨a2, c2, rfl, rfl⟩
theorem kept_s {xs : Bs} {a a' : Option Addr} {c c' : Nat} (ha : RBy w0 H a c xs) : FnS Try.prog w0 (ob a' c' (lm xs) :: H) 27 #[.slice a' xs.length c', .slice a xs.length c] (fun v H' => v = .bool true ∧ H' = ob a' c' (lm (xs.map fl)) :: H) := by
  have hx0 : ∀ H0, RBy w0 (ob a' c' (lm xs) :: H0) a' c' xs := fun H0 => by
    have := (RBy.hd (w0 := w0) (E := 5) (a := a') (c := c') (xs := lm xs) (H := H0)).take (k := xs.length) (by simp)
    rwa [lm, List.take_left] at this
  have hll : (lm xs).length = xs.length + 2 := by simp [lm]
  refine fns_enter Try.func27 rfl rfl rfl ?_
  refine s_kn (Kn.by (RBy.hd (w0 := w0) (E := 5) (a := a') (c := c') (xs := lm xs) (H := H))) fun l1 => ?_
  simp only [maxLen] at l1
  refine sx ?_
  refine s_rw (t := 13) (v' := .int .i64 (((lm xs).length : Nat) : Int)) rfl (ci (by omega)) ?_
  refine sx ?_
  refine s_yS rfl rfl rfl (y_st (xs := xs) rfl (hx0 H)) ?_
  refine sx ?_
  refine s_gT rfl (by rw [decide_eq_true_eq, lm, List.getD_eq_getElem?_getD, List.getElem?_append_right (Nat.le_refl _), Nat.sub_self]; rfl) ?_
  refine sx ?_
  refine s_rwC (t := 7) (v' := .bool true) rfl (congrArg Value.bool (by rw [decide_eq_true_eq, lm, List.getD_eq_getElem?_getD, List.getElem?_append_right (Nat.le_add_right _ _), Nat.add_sub_cancel_left]; rfl)) ?_
  refine s_rwC (t := 6) (v' := .slice a' (xs.length + 2) c') rfl (by rw [hll]) ?_
  refine s_loop (fun i : Nat => [(5, .int .i64 xs.length), (6, .slice a' (xs.length + 2) c'), (7, .bool true), (8, .int .i64 i)]) (fun i => ob a' c' (ws xs i) :: H) (fun i => i ≤ xs.length) (fun i => xs.length - i) 0 (Nat.zero_le _) ?_
  intro i hi
  refine sx ?_
  refine s_if rfl (fun t1 => ?_) (fun t1 => ?_)
  · have hw := ws_len xs hi
    refine s_rwC (t := 6) (v' := .slice a' (ws xs i).length c') rfl (by rw [hw]) ?_
    clear hx0
    refine sx ?_
    refine s_yS rfl rfl rfl (y_subb (a := 255) rfl rfl) ?_
    refine sx ?_
    refine s_set1g (i := i) (y := 255 - (ws xs i).getD i 0) rfl rfl (by exact at_) rfl (by omega) ?_
    rw [ws_step (by omega)]
    refine sx ?_
    refine s_rwQ (t := 6) (v' := .slice a' (xs.length + 2) c') rfl (by rw [hw]) ?_
    exact s_again (i + 1) (by omega) (by omega)
  · obtain rfl : i = xs.length := by omega
    refine sx ?_
    refine s_ret1 rfl rfl ⟨rfl, rfl⟩ ?_
    rw [ws, List.take_length, List.drop_length, List.nil_append]
    exact Ent.refl
theorem turned_s {xs : Bs} {a : Option Addr} {c : Nat} (ha : RBy w0 H a c xs) (h1 : xs.length ≤ 140737488351232) : FnS Try.prog w0 H 28 #[.slice a xs.length c] (fun v H' => ∃ a' c', v = .slice a' (xs.map fl).length c' ∧ H' = ob a' c' (lm (xs.map fl)) :: H) := by
  refine fns_enter Try.func28 rfl rfl rfl ?_
  refine sx ?_
  refine s_call rfl (lent_s ha h1) ?_
  rintro _ _ ⟨a1, c1, rfl, rfl⟩
  refine ⟨chk_seq, ?_⟩
  refine sx ?_
  refine s_call rfl (kept_s ha) ?_
  rintro _ _ ⟨rfl, rfl⟩
  refine ⟨chk_seq, ?_⟩
  refine sx ?_
  exact s_ret1 rfl rfl ⟨a1, c1, by rw [List.length_map], rfl⟩
end Go.Sx
