/- Part of a proof: OrderKeys, walked. -/
import Derived.Test.YtfhbkhhfcjmnhaaCON
import Derived.Test.YtfhbkhhfcjmnhaaCOB
namespace Go.Sx
open Go Go.Proofs
set_option maxRecDepth 10000
variable {w0 : World} {H : List Ck}
theorem ob_by {B : Ob} {s : SB} (h : s ∈ B.ls) : RBy w0 (B.ck :: H) s.a s.c s.xs := RBy.ent (fam_by (E := 5) (H := []) h) (Ent.mem' (c := fam 5 B.ls) (by simp [Ob.pieces]))
abbrev KeysR (B : Ob) (n : Nat) (H : List Ck) : Value → List Ck → Prop := fun v H' => v = .bool true ∧ ∃ B' : Ob, H' = B'.ck :: H ∧ B'.k = B.k ∧ B'.p = B.p ∧ B'.q = B.q ∧ B'.Ok n
set_option maxHeartbeats 1000000 in
theorem keys_s {B : Ob} {n : Nat} {xs ys : Bs} {a1 a2 a3 a4 : Option Addr} {c1 c2 c3 c4 : Nat} (hB : B.Ok n) (hn : n ≤ 900) (h1 : RBy w0 H a1 c1 xs) (h2 : RBy w0 H a2 c2 ys) (h3 : RBy w0 H a3 c3 xs) (h4 : RBy w0 H a4 c4 ys) (hx : xs.length ≤ 140737488351232) (hy : ys.length ≤ 140737488351232) :
    FnS Try.prog w0 (B.ck :: H) 26 #[.pointer (some ⟨B.k, 0, none⟩), .slice a1 xs.length c1, .slice a2 ys.length c2, .slice a3 xs.length c3, .slice a4 ys.length c4] (KeysR B (n + 2) H) := by
  have hbl : (betK xs ys).length ≤ 140737488351232 := by
    rw [betK]
    split
    · rw [btw, List.length_take]; omega
    · exact Nat.zero_le _
  refine fns_enter Try.func26 rfl rfl rfl ?_
  refine sx ?_
  refine s_call rfl (onext_s h1.tl (by omega)) ?_
  rintro _ _ ⟨an, cn, rfl, rfl⟩
  refine ⟨chk_seq, ?_⟩
  refine sx ?_
  refine s_call rfl (qnext_s h3.tl.tl (by omega)) ?_
  rintro _ _ ⟨am, cm, rfl, rfl⟩
  refine ⟨chk_seq, ?_⟩
  refine sx ?_
  refine s_call rfl (obetween_s h1.tl.tl.tl h2.tl.tl.tl (by omega)) ?_
  rintro _ _ ⟨ak, ck, rfl, rfl⟩
  refine ⟨chk_seq, ?_⟩
  refine sx ?_
  refine s_call rfl (qbetween_s h3.tl.tl.tl.tl h4.tl.tl.tl.tl (by omega)) ?_
  rintro _ _ ⟨al, cl, rfl, rfl⟩
  refine ⟨chk_seq, ?_⟩
  refine sx ?_
  refine s_entL (ob an cn (xs ++ [0]) :: B.ck :: ob am cm (xs ++ [0]) :: ob ak ck (betK xs ys) :: ob al cl (betK xs ys) :: H) (Ent.cons (by exact rm) (Ent.cons (by exact rm) (Ent.cons (by exact rm) (Ent.cons (by exact rm) (Ent.cons (by exact rm) Ent.refl))))) ?_
  have hh := holdB_s (w0 := w0) (B := B) (H := ob am cm (xs ++ [0]) :: ob ak ck (betK xs ys) :: ob al cl (betK xs ys) :: H) (a := an) (c := cn) (a2 := am) (c2 := cm) (xs := xs ++ [0]) hB (by omega) (by rw [List.length_append, List.length_singleton]; omega) RBy.hd
  refine s_call rfl hh ?_
  rintro _ _ ⟨B1, rfl, k1, p1, q1, ok1, _, m1⟩
  refine ⟨chk_seq, ?_⟩
  refine sx ?_
  refine s_entL (ob ak ck (betK xs ys) :: B1.ck :: ob am cm (xs ++ [0]) :: ob al cl (betK xs ys) :: H) (Ent.cons (by exact rm) (Ent.cons (by exact rm) (Ent.cons (by exact rm) (Ent.cons (by exact rm) Ent.refl)))) ?_
  have hh2 := holdB_s (w0 := w0) (B := B1) (H := ob am cm (xs ++ [0]) :: ob al cl (betK xs ys) :: H) (a := ak) (c := ck) (a2 := al) (c2 := cl) (xs := betK xs ys) ok1 (by omega) (by omega) (RBy.hd (w0 := w0) (E := 5) (H := H)).tl
  rw [k1] at hh2
  refine s_call rfl hh2 ?_
  rintro _ _ ⟨B2, rfl, k2, p2, q2, ok2, in2, m2⟩
  refine ⟨chk_seq, ?_⟩
  have rn : RBy w0 (B2.ck :: ob am cm (xs ++ [0]) :: ob al cl (betK xs ys) :: H) an cn (xs ++ [0]) := ob_by (in2 _ m1)
  have rk : RBy w0 (B2.ck :: ob am cm (xs ++ [0]) :: ob al cl (betK xs ys) :: H) ak ck (betK xs ys) := ob_by m2
  refine sx ?_
  refine s_callV rfl (compare_s (xs := xs) (ys := ys) h1.tl.tl.tl h2.tl.tl.tl) ?_
  refine sx ?_
  refine s_callV rfl (qcmp_s (xs := xs) (ys := ys) h3.tl.tl.tl h4.tl.tl.tl) ?_
  refine sx ?_
  refine s_callV rfl (common_s (xs := xs) (ys := ys) h1.tl.tl.tl h2.tl.tl.tl) ?_
  refine sx ?_
  refine s_callV rfl (qcommon_s (xs := xs) (ys := ys) h3.tl.tl.tl h4.tl.tl.tl) ?_
  refine sx ?_
  refine s_ret1 rfl rfl ⟨rfl, B2, rfl, by rw [k2, k1], by rw [p2, p1], by rw [q2, q1], ok2⟩ ?_
  exact Ent.head (Ent.tl (Ent.tl Ent.refl))
end Go.Sx
