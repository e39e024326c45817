/- Part of a proof: several parts of a walk, one behind the other. -/
import Derived.Test.YtimakbpghggdfaaCKB
import Derived.Test.YtimakbpghggdfaaCGH
import Derived.Test.YtimakbpghggdfaaCGI
namespace Go.Sx
open Go Go.Proofs
set_option maxRecDepth 10000
variable {w0 : World} {H : List Ck}
/-- A message of the examples. -/
abbrev LmR (w0 : World) (H : List Ck) (d : MD) : Value → List Ck → Prop := fun v H' => ∃ (m : Mg) (L : List Ck), v = .agg m.cells.toArray ∧ m.d = d ∧ H' = .star L :: H ∧ ∀ H0, RMg w0 (.star L :: H0) m
theorem ro2 {k k' c c' : Nat} {lo v : Bs} (g1 : lo.length ≤ c) (g2 : c ≤ maxLen) (g1' : v.length ≤ c') (g2' : c' ≤ maxLen) (H0 : List Ck) :
    RBy w0 (.star [Ck.ro k' (v.map bv), Ck.ro k (lo.map bv)] :: H0) (some ⟨k, 0, none⟩) c lo ∧ RBy w0 (.star [Ck.ro k' (v.map bv), Ck.ro k (lo.map bv)] :: H0) (some ⟨k', 0, none⟩) c' v :=
  ⟨RBy.ent (RBy.roc (H := []) g1 g2) (Ent.mem' (c := Ck.ro k (lo.map bv)) (by simp)), RBy.ent (RBy.roc (H := []) g1' g2') (Ent.mem' (c := Ck.ro k' (v.map bv)) (by simp))⟩
theorem lput_s {st : Int} {lo v : Bs} (h1 : lo.length ≤ maxLen) (h2 : v.length ≤ maxLen) : FnS Try.prog w0 H 22 #[.int .u64 st, str lo, str v] (LmR w0 H ⟨st, 1, lo, [], v⟩) := by
  refine fns_enter Try.func22 rfl rfl rfl ?_
  refine sx ?_
  refine s_alloc fun b4 => ?_
  refine sx ?_
  refine s_s2b rfl h1 ?_
  intro k c g1 g2
  refine sx ?_
  refine s_s2b rfl h2 ?_
  intro k' c' g1' g2'
  refine sx ?_
  refine s_retc rfl rfl (by exact at_) rfl ⟨⟨st, 1, some ⟨k, 0, none⟩, c, lo, none, 0, [], some ⟨k', 0, none⟩, c', v⟩, [Ck.ro k' (v.map bv), Ck.ro k (lo.map bv)], rfl, rfl, rfl, fun H0 => ⟨(ro2 g1 g2 g1' g2' H0).1, RBy.nil, (ro2 g1 g2 g1' g2' H0).2⟩⟩ ?_
  refine Ent.trans (H' := Ck.ro k' (v.map bv) :: Ck.ro k (lo.map bv) :: H) (by exact ent) ?_
  exact Ent.star (L := [Ck.ro k' (v.map bv), Ck.ro k (lo.map bv)]) Ent.refl
theorem lgone_s {st : Int} {lo v : Bs} (h1 : lo.length ≤ maxLen) (h2 : v.length ≤ maxLen) : FnS Try.prog w0 H 21 #[.int .u64 st, str lo, str v] (LmR w0 H ⟨st, 3, lo, v, []⟩) := by
  refine fns_enter Try.func21 rfl rfl rfl ?_
  refine sx ?_
  refine s_alloc fun b4 => ?_
  refine sx ?_
  refine s_s2b rfl h1 ?_
  intro k c g1 g2
  refine sx ?_
  refine s_s2b rfl h2 ?_
  intro k' c' g1' g2'
  refine sx ?_
  refine s_retc rfl rfl (by exact at_) rfl ⟨⟨st, 3, some ⟨k, 0, none⟩, c, lo, some ⟨k', 0, none⟩, c', v, none, 0, []⟩, [Ck.ro k' (v.map bv), Ck.ro k (lo.map bv)], rfl, rfl, rfl, fun H0 => ⟨(ro2 g1 g2 g1' g2' H0).1, (ro2 g1 g2 g1' g2' H0).2, RBy.nil⟩⟩ ?_
  refine Ent.trans (H' := Ck.ro k' (v.map bv) :: Ck.ro k (lo.map bv) :: H) (by exact ent) ?_
  exact Ent.star (L := [Ck.ro k' (v.map bv), Ck.ro k (lo.map bv)]) Ent.refl
theorem ldel_s {st : Int} {lo : Bs} (h1 : lo.length ≤ maxLen) : FnS Try.prog w0 H 23 #[.int .u64 st, str lo] (LmR w0 H ⟨st, 2, lo, [], []⟩) := by
  refine fns_enter Try.func23 rfl rfl rfl ?_
  refine sx ?_
  refine s_alloc fun b4 => ?_
  refine sx ?_
  refine s_s2b rfl h1 ?_
  intro k c g1 g2
  refine sx ?_
  refine s_retc rfl rfl (by exact at_) rfl ⟨⟨st, 2, some ⟨k, 0, none⟩, c, lo, none, 0, [], none, 0, []⟩, [Ck.ro k (lo.map bv)], rfl, rfl, rfl, fun H0 => ⟨RBy.ent (RBy.roc (H := []) g1 g2) (Ent.mem' (c := Ck.ro k (lo.map bv)) (by simp)), RBy.nil, RBy.nil⟩⟩ ?_
  refine Ent.trans (H' := Ck.ro k (lo.map bv) :: H) (by exact ent) ?_
  exact Ent.star (L := [Ck.ro k (lo.map bv)]) Ent.refl
end Go.Sx
namespace Go.Sx
open Go
abbrev x1 : MD := ⟨1, 3, [97], [102], []⟩
abbrev x2 : MD := ⟨2, 1, [99], [], [120]⟩
abbrev x3 : MD := ⟨3, 2, [107], [], []⟩
abbrev rK : T3 := ([107], [107, 0], false)
abbrev rC : T3 := ([99], [99, 0], false)
abbrev rA : T3 := ([97], [102], false)
theorem cv_of {l rs c : List T3} (hp : rs.Perm ((l.filter fun d => !emR d).map foR)) (hs : LoS rs) (e : rs.foldl cvP [] = c) : IsCv l c := e ▸ cvP_is hp hs
theorem ex_cv1 : IsCv ([] ++ [saidR x3]) [rK] := cv_of (rs := [rK]) (by decide) (by decide) (by decide)
theorem ex_cv2 : IsCv ([rK] ++ [saidR x2]) [rC, rK] := cv_of (rs := [rC, rK]) (by decide) (by decide) (by decide)
theorem ex_cv3 : IsCv ([rC, rK] ++ [saidR x1]) [rA, rK] := cv_of (rs := [rA, rC, rK]) (by decide) (by decide) (by decide)
theorem ex_cv4 : IsCv [rK, ([97], [99], false), ([99, 0], [102], false)] [([97], [99], false), ([99, 0], [102], false), rK] := cv_of (rs := [([97], [99], false), ([99, 0], [102], false), rK]) (by decide) (by decide) (by decide)
abbrev exP : List PD := [⟨false, [], [], ([97], [99], false)⟩, ⟨true, [99], [120], t30⟩, ⟨false, [], [], ([99, 0], [102], false)⟩, ⟨false, [], [], rK⟩]
theorem ex_st : MnSt [x1, x2, x3] [rA, rK] [rK, ([97], [99], false), ([99, 0], [102], false)] [⟨true, [99], [120], t30⟩] := by
  have h1 := MnSt.nil.gone (m := x3) (by decide) ex_cv1
  rw [show ([] : List T3) ++ woR (saidR x3) [] = [rK] by decide] at h1
  have h2 := h1.put (m := x2) (by decide) rfl ex_cv2
  have h3 := h2.gone (m := x1) (by decide) ex_cv3
  rw [show [rK] ++ woR (saidR x1) [rC, rK] = [rK, ([97], [99], false), ([99, 0], [102], false)] by decide] at h3
  exact h3
theorem ex_mean : IsMean [x1, x2, x3] exP := mean_of ex_st ex_cv4 (by decide) (by decide)
end Go.Sx
