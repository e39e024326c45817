/- Part of a proof: lists that are filled; the law DeadOrder, walked. -/
import Derived.Test.YtceandgmpcpmfaaCDA
namespace Go.Sx
open Go Go.Proofs
set_option maxRecDepth 10000
variable {w0 : World} {H : List Ck}
structure FlI where
  i : Nat
  a1 : Option Addr
  c1 : Nat
  a2 : Option Addr
  c2 : Nat
abbrev FillR (l : List Lf) (H : List Ck) : Value → List Ck → Prop := fun v H' => ∃ d a1 c1 a2 c2, v = .tuple #[.pointer (some ⟨d, 0, none⟩), .slice a2 (fillL l).2.length c2] ∧ H' = .hb d 63 [.slice a1 (fillL l).1.length c1] :: ol 34 a1 c1 (fillL l).1 :: ol 34 a2 c2 (fillL l).2 :: H
set_option maxHeartbeats 1000000 in
theorem filled_s {a : Option Addr} {c : Nat} {l : List Lf} (hx : RSl w0 H a c l) (hl : l.length ≤ 5864062014805) : FnS Try.prog w0 H 10 #[.slice a l.length c] (FillR l H) := by
  refine fns_enter Try.func10 rfl rfl rfl ?_
  refine sx ?_
  refine s_call rfl dnew_s ?_
  rintro _ _ ⟨d, rfl, rfl⟩
  refine ⟨chk_seq, ?_⟩
  refine sx ?_
  refine s_loop (fun m : FlI => [(0, .slice a l.length c), (4, .pointer (some ⟨d, 0, none⟩)), (5, .slice m.a2 (fillL (l.take m.i)).2.length m.c2), (6, .int .i64 m.i)])
    (fun m => .hb d 63 [.slice m.a1 (fillL (l.take m.i)).1.length m.c1] :: ol 34 m.a1 m.c1 (fillL (l.take m.i)).1 :: ol 34 m.a2 m.c2 (fillL (l.take m.i)).2 :: H) (fun m => m.i ≤ l.length) (fun m => l.length - m.i) ⟨0, none, 0, none, 0⟩ (Nat.zero_le _) ?_ (he := Ent.head (Ent.head Ent.nilS))
  rintro ⟨i, a1, c1, a2, c2⟩ hi
  simp only at hi ⊢
  have hok := fillL_ok (l.take i)
  have hln := fill_len (l.take i)
  have hln1 := fill_len1 (l.take i)
  rw [List.length_take] at hln
  refine sx ?_
  refine s_lif rfl (fun t1 => ?_) (fun t1 => ?_)
  · obtain ⟨x, hxi⟩ := get_lt l i (by omega)
    have hst : fillL (l.take (i + 1)) = fillS (fillL (l.take i)) x := by rw [snocT hxi, fill_snoc]
    refine sx ?_
    refine s_call rfl (dput_s (xs := (fillL (l.take i)).1) (x := x) hok.1 (by omega)) ?_
    rintro _ _ ⟨rfl, a3, c3, rfl⟩
    refine ⟨chk_seq, ?_⟩
    refine sx ?_
    refine s_if rfl (fun t2 => ?_) (fun t2 => ?_)
    · have e1 : (fillL (l.take (i + 1))).1 = putV (fillL (l.take i)).1 x := by rw [hst, fillS, if_pos t2, putV, if_pos t2]
      have e2 : (fillL (l.take (i + 1))).2 = (fillL (l.take i)).2 ++ [x] := by rw [hst, fillS, if_pos t2]
      refine sx ?_
      refine s_bsl [x] rfl rfl fun b30 => ?_
      refine sx ?_
      refine s_app (xs := (fillL (l.take i)).2) ?_
      intro a4 c4
      refine sx ?_
      rw [← e1, ← e2]
      exact s_again ⟨i + 1, a3, c3, a4, c4⟩ (by simp only; omega) (by simp only; omega)
    · have e1 : (fillL (l.take (i + 1))).1 = putV (fillL (l.take i)).1 x := by rw [hst, fillS, if_neg t2, putV, if_neg t2]
      have e2 : (fillL (l.take (i + 1))).2 = (fillL (l.take i)).2 := by rw [hst, fillS, if_neg t2]
      refine sx ?_
      rw [← e1, ← e2]
      exact s_again ⟨i + 1, a3, c3, a2, c2⟩ (by simp only; omega) (by simp only; omega)
  · obtain rfl : i = l.length := by omega
    rw [List.take_length]
    refine sx ?_
    exact s_ret2 rfl rfl rfl ⟨d, a1, c1, a2, c2, rfl, rfl⟩
theorem rev_snoc {l : List Lf} {k : Nat} {x : Lf} (hk : k < l.length) (hx : l[l.length - 1 - k]? = some x) : l.reverse.take (k + 1) = l.reverse.take k ++ [x] := by
  refine snocT ?_
  rw [List.getElem?_reverse hk, hx]
end Go.Sx
