/- The given statement NodeEncodesSaid: for every input the law returns true, and the arguments read as they did. -/
import Derived.Test.YtkcabddbeclokaaGreatCWI
import Derived.Test.YtkcabddbeclokaaGreatCR7j
import Derived.Test.YtkcabddbeclokaaGreatCKB
import Derived.Test.YtkcabddbeclokaaGreatRows
namespace Go.Proofs.YtkcabddbeclokaaGreat
open Go.ChangeShapes Go.WideShapes Go.ChangeAt Go.RowKit Go.Sx
theorem own' : ownKnob Tryz.prog.godebug = none := by kernel_rfl
theorem cons_of {α : Type} {l : List α} {n : Nat} (h : l.length = n + 1) : ∃ a r, l = a :: r ∧ r.length = n := by
  cases l with
  | nil => simp at h
  | cons a r => exact ⟨a, r, rfl, by simpa using h⟩
set_option maxRecDepth 100000 in
set_option maxHeartbeats 2000000 in
theorem nodeEncodes_lifted (os : Os) (started : os.Started) (H : Type) (enc : TypeId × Value → H) :
    ReturnsInHanded {} Tryz.checked os 3 .any (Rows.nodeEncodesSpec.pre6 enc Tryz.prog Tryz.f3 Rows.nodeEncodesRow.domain false) (Rows.nodeEncodesSpec.post enc Tryz.prog Tryz.f3 false true false false) := by
  refine returnsInHanded_of_change_sized (C := Tryz.checked) own' started (by kernel_rfl) Tryz.func3
    (ChangeSpec.witness6 (enc := enc) (C := Tryz.checked) false ⟨#[], #[.int .i64 0, .agg #[.slice none 0 0, .slice none 0 0, .slice none 0 0], .agg #[.slice none 0 0, .slice none 0 0, .slice none 0 0]], []⟩ 8 (by kernel_rfl) (by kernel_rfl) (by kernel_rfl) (by kernel_rfl)) ?_
  intro W base args ds gs before hval0 hW hcnd hsz0 hholds
  have hW' := hW
  obtain ⟨p, q, hA0, hV, rfl, hfz, hnd⟩ := hW
  have hA : DataW.TrodAll enc Tryz.prog W 0 (fun _ => true) true [3, 28, 28] args.toList ds p := hA0
  obtain ⟨rfl, rfl⟩ := trodVars_none hV
  have u3 : Tryz.prog.underlying 3 = some (.int .i64) := by kernel_rfl
  have f28 : fieldsOf Tryz.prog 28 = [(25, 0), (26, 2)] := by kernel_rfl
  have c28 : Tryz.prog.cellsOf 28 = 3 := by kernel_rfl
  have f25 : fieldsOf Tryz.prog 25 = [(22, 0), (23, 1)] := by kernel_rfl
  have c25 : Tryz.prog.cellsOf 25 = 2 := by kernel_rfl
  have u44 : Tryz.prog.underlying 44 = some (.slice 5) := by kernel_rfl
  have u5 : Tryz.prog.underlying 5 = some (.int .u8) := by kernel_rfl
  have c5 : Tryz.prog.cellsOf 5 = 1 := by kernel_rfl
  have y5 : Tryz.prog.bytesOf 5 = 1 := by kernel_rfl
  have c44 : Tryz.prog.cellsOf 44 = 1 := by kernel_rfl
  have u22 : Tryz.prog.underlying 22 = some (.slice 3) := by kernel_rfl
  have c22 : Tryz.prog.cellsOf 22 = 1 := by kernel_rfl
  have c3 : Tryz.prog.cellsOf 3 = 1 := by kernel_rfl
  have y3 : Tryz.prog.bytesOf 3 = 8 := by kernel_rfl
  have u23 : Tryz.prog.underlying 23 = some (.slice 44) := by kernel_rfl
  have c23 : Tryz.prog.cellsOf 23 = 1 := by kernel_rfl
  have y44 : Tryz.prog.bytesOf 44 = 24 := by kernel_rfl
  have f56 : fieldsOf Tryz.prog 56 = [(53, 0), (54, 1), (44, 2), (44, 3), (44, 4)] := by kernel_rfl
  have c56 : Tryz.prog.cellsOf 56 = 5 := by kernel_rfl
  have c53 : Tryz.prog.cellsOf 53 = 1 := by kernel_rfl
  have c54 : Tryz.prog.cellsOf 54 = 1 := by kernel_rfl
  have u53 : Tryz.prog.underlying 53 = some (.int .u64) := by kernel_rfl
  have u54 : Tryz.prog.underlying 54 = some (.int .i64) := by kernel_rfl
  have c26 : Tryz.prog.cellsOf 26 = 1 := by kernel_rfl
  have u26 : Tryz.prog.underlying 26 = some (.slice 56) := by kernel_rfl
  have y56 : Tryz.prog.bytesOf 56 = 88 := by kernel_rfl
  obtain ⟨v0, l1, d0, s1, q0, r1, k1, m1, n1, t0, hA1⟩ := trodAll_cons hA
  obtain ⟨v1, l2, d1, s2, q1, r2, k2, m2, n2, t1, hA2⟩ := trodAll_cons hA1
  obtain ⟨v2, l3, d2, s3, q2, r3, k3, m3, n3, t2, hA3⟩ := trodAll_cons hA2
  obtain ⟨k4, m4, n4⟩ := trodAll_nil hA3
  subst k4; subst m4
  subst k3; subst m3
  subst k2; subst m2
  obtain ⟨L⟩ := args
  have k1 : L = [v0, v1, v2] := k1
  subst k1; subst m1
  obtain ⟨z0, t0⟩ := t0
  have w0 : ∀ n ∈ d0.weights Tryz.prog 3, n ≤ reachBytes := fun n hn => by have := List.all_eq_true.1 hsz0 n (DataW.weights_mem_each (j := 0) rfl rfl n hn); simpa using this
  have o0 : Value.okWide Tryz.prog W .any base 3 v0 := hval0 0 _ v0 rfl rfl
  rw [okWide_intv u3 o0] at t0
  obtain ⟨p0, e0, g0⟩ := (opc_int u3).opens t0 w0
  have e0 := List.singleton_inj.1 e0
  subst e0
  obtain ⟨z1, t1⟩ := t1
  have w1 : ∀ n ∈ d1.weights Tryz.prog 28, n ≤ reachBytes := fun n hn => by have := List.all_eq_true.1 hsz0 n (DataW.weights_mem_each (j := 1) rfl rfl n hn); simpa using this
  have o1 : Value.okWide Tryz.prog W .any base 28 v1 := hval0 1 _ v1 rfl rfl
  obtain ⟨cs1, x1, yc1⟩ := okWide_fields f28 (by simp) o1
  subst x1
  rw [yc1] at t1
  obtain ⟨p1, e1, g1⟩ := (opc_nd f28 c28 c25 c26 u26 c56 y56 (opc_kd f25 c25 u22 c22 u3 c3 y3 u23 c23 c44 y44 u44 u5 c5 y5) (opc_mg f56 c56 c53 c54 c44 u53 u54 u44 u5 c5 y5)).opens t1 w1
  subst e1
  obtain ⟨z2, t2⟩ := t2
  have w2 : ∀ n ∈ d2.weights Tryz.prog 28, n ≤ reachBytes := fun n hn => by have := List.all_eq_true.1 hsz0 n (DataW.weights_mem_each (j := 2) rfl rfl n hn); simpa using this
  have o2 : Value.okWide Tryz.prog W .any base 28 v2 := hval0 2 _ v2 rfl rfl
  obtain ⟨cs2, x2, yc2⟩ := okWide_fields f28 (by simp) o2
  subst x2
  rw [yc2] at t2
  obtain ⟨p2, e2, g2⟩ := (opc_nd f28 c28 c25 c26 u26 c56 y56 (opc_kd f25 c25 u22 c22 u3 c3 y3 u23 c23 c44 y44 u44 u5 c5 y5) (opc_mg f56 c56 c53 c54 c44 u53 u54 u44 u5 c5 y5)).opens t2 w2
  subst e2
  refine Calls.mono (FnV.start (nencodes_s (size := p0) (n := p1) (o := p2) g1.r g2.r g1.fit g2.fit g1.k.n g2.k.n)) fun e W' ⟨v, he, hv, hE⟩ => ?_
  subst he
  subst hv
  have hBl : Below W.heap.size W W' := hE.below (Nat.le_refl _) (fun _ _ h => h)
  exact ⟨_, rfl, post_true (by kernel_rfl) rfl rfl (tb := 4) (by kernel_rfl) (by kernel_rfl) rfl rfl rfl hW' hBl⟩
theorem nodeEncodes_holds : Rows.NodeEncodesSaid :=
  OpenClaim.holds_of_wide 3 Tryz.f3 rfl rfl rfl rfl rfl rfl rfl ⟨rfl, rfl, rfl, rfl, rfl⟩ rfl rfl rfl rfl rfl (by kernel_rfl) Tryz.func3 (by kernel_rfl)
    (of_decide_eq_true (by kernel_rfl)) (by unfold Func.isWrapper; rw [if_neg (of_decide_eq_false (by kernel_rfl))]; exact ⟨rfl, rfl⟩)
    (fun os started H enc _ => nodeEncodes_lifted os started H enc)
end Go.Proofs.YtkcabddbeclokaaGreat
