/- The given statement NodeTakesSaid: for every input the law returns true, and the arguments read as they did. -/
import Derived.Test.YtkcabddbeclokaaCWF
import Derived.Test.YtkcabddbeclokaaCR7j
import Derived.Test.YtkcabddbeclokaaCKB
import Derived.Test.YtkcabddbeclokaaRows
namespace Go.Proofs.Ytkcabddbeclokaa
open Go.ChangeShapes Go.WideShapes Go.ChangeAt Go.RowKit Go.Sx
theorem own' : ownKnob Try.prog.godebug = none := by kernel_rfl
theorem cons_of {α : Type} {l : List α} {n : Nat} (h : l.length = n + 1) : ∃ a r, l = a :: r ∧ r.length = n := by
  cases l with
  | nil => simp at h
  | cons a r => exact ⟨a, r, rfl, by simpa using h⟩
set_option maxRecDepth 100000 in
set_option maxHeartbeats 2000000 in
theorem nodeTakes_lifted (os : Os) (started : os.Started) (H : Type) (enc : TypeId × Value → H) :
    ReturnsInHanded {} Try.checked os 6 .any (Rows.nodeTakesSpec.pre6 enc Try.prog Try.f6 Rows.nodeTakesRow.domain false) (Rows.nodeTakesSpec.post enc Try.prog Try.f6 false true false false) := by
  refine returnsInHanded_of_change_sized (C := Try.checked) own' started (by kernel_rfl) Try.func6
    (ChangeSpec.witness6 (enc := enc) (C := Try.checked) false ⟨#[], #[.int .i64 0, .agg #[.slice none 0 0, .slice none 0 0, .slice none 0 0], .int .i64 0], []⟩ 8 (by kernel_rfl) (by kernel_rfl) (by kernel_rfl) (by kernel_rfl)) ?_
  intro W base args ds gs before hval0 hW hcnd hsz0 hholds
  have hW' := hW
  obtain ⟨p, q, hA0, hV, rfl, hfz, hnd⟩ := hW
  have hA : DataW.TrodAll enc Try.prog W 0 (fun _ => true) true [3, 39, 3] args.toList ds p := hA0
  obtain ⟨rfl, rfl⟩ := trodVars_none hV
  have u3 : Try.prog.underlying 3 = some (.int .i64) := by kernel_rfl
  have f39 : fieldsOf Try.prog 39 = [(36, 0), (37, 2)] := by kernel_rfl
  have c39 : Try.prog.cellsOf 39 = 3 := by kernel_rfl
  have f36 : fieldsOf Try.prog 36 = [(34, 0), (27, 1)] := by kernel_rfl
  have c36 : Try.prog.cellsOf 36 = 2 := by kernel_rfl
  have u25 : Try.prog.underlying 25 = some (.slice 5) := by kernel_rfl
  have u5 : Try.prog.underlying 5 = some (.int .u8) := by kernel_rfl
  have c5 : Try.prog.cellsOf 5 = 1 := by kernel_rfl
  have y5 : Try.prog.bytesOf 5 = 1 := by kernel_rfl
  have c25 : Try.prog.cellsOf 25 = 1 := by kernel_rfl
  have u34 : Try.prog.underlying 34 = some (.slice 3) := by kernel_rfl
  have c34 : Try.prog.cellsOf 34 = 1 := by kernel_rfl
  have c3 : Try.prog.cellsOf 3 = 1 := by kernel_rfl
  have y3 : Try.prog.bytesOf 3 = 8 := by kernel_rfl
  have u27 : Try.prog.underlying 27 = some (.slice 25) := by kernel_rfl
  have c27 : Try.prog.cellsOf 27 = 1 := by kernel_rfl
  have y25 : Try.prog.bytesOf 25 = 24 := by kernel_rfl
  have f78 : fieldsOf Try.prog 78 = [(75, 0), (76, 1), (25, 2), (25, 3), (25, 4)] := by kernel_rfl
  have c78 : Try.prog.cellsOf 78 = 5 := by kernel_rfl
  have c75 : Try.prog.cellsOf 75 = 1 := by kernel_rfl
  have c76 : Try.prog.cellsOf 76 = 1 := by kernel_rfl
  have u75 : Try.prog.underlying 75 = some (.int .u64) := by kernel_rfl
  have u76 : Try.prog.underlying 76 = some (.int .i64) := by kernel_rfl
  have c37 : Try.prog.cellsOf 37 = 1 := by kernel_rfl
  have u37 : Try.prog.underlying 37 = some (.slice 78) := by kernel_rfl
  have y78 : Try.prog.bytesOf 78 = 88 := by kernel_rfl
  obtain ⟨v0, l1, d0, s1, q0, r1, k1, m1, n1, t0, hA1⟩ := trodAll_cons hA
  obtain ⟨v1, l2, d1, s2, q1, r2, k2, m2, n2, t1, hA2⟩ := trodAll_cons hA1
  obtain ⟨v2, l3, d2, s3, q2, r3, k3, m3, n3, t2, hA3⟩ := trodAll_cons hA2
  obtain ⟨k4, m4, n4⟩ := trodAll_nil hA3
  subst k4; subst m4
  subst k3; subst m3
  subst k2; subst m2
  obtain ⟨L⟩ := args
  have k1 : L = [v0, v1, v2] := k1
  subst k1; subst m1
  obtain ⟨z0, t0⟩ := t0
  have w0 : ∀ n ∈ d0.weights Try.prog 3, n ≤ reachBytes := fun n hn => by have := List.all_eq_true.1 hsz0 n (DataW.weights_mem_each (j := 0) rfl rfl n hn); simpa using this
  have o0 : Value.okWide Try.prog W .any base 3 v0 := hval0 0 _ v0 rfl rfl
  rw [okWide_intv u3 o0] at t0
  obtain ⟨p0, e0, g0⟩ := (opc_int u3).opens t0 w0
  have e0 := List.singleton_inj.1 e0
  subst e0
  obtain ⟨z1, t1⟩ := t1
  have w1 : ∀ n ∈ d1.weights Try.prog 39, n ≤ reachBytes := fun n hn => by have := List.all_eq_true.1 hsz0 n (DataW.weights_mem_each (j := 1) rfl rfl n hn); simpa using this
  have o1 : Value.okWide Try.prog W .any base 39 v1 := hval0 1 _ v1 rfl rfl
  obtain ⟨cs1, x1, yc1⟩ := okWide_fields f39 (by simp) o1
  subst x1
  rw [yc1] at t1
  obtain ⟨p1, e1, g1⟩ := (opc_nd f39 c39 c36 c37 u37 c78 y78 (opc_kd f36 c36 u34 c34 u3 c3 y3 u27 c27 c25 y25 u25 u5 c5 y5) (opc_mg f78 c78 c75 c76 c25 u75 u76 u25 u5 c5 y5)).opens t1 w1
  subst e1
  obtain ⟨z2, t2⟩ := t2
  have w2 : ∀ n ∈ d2.weights Try.prog 3, n ≤ reachBytes := fun n hn => by have := List.all_eq_true.1 hsz0 n (DataW.weights_mem_each (j := 2) rfl rfl n hn); simpa using this
  have o2 : Value.okWide Try.prog W .any base 3 v2 := hval0 2 _ v2 rfl rfl
  rw [okWide_intv u3 o2] at t2
  obtain ⟨p2, e2, g2⟩ := (opc_int u3).opens t2 w2
  have e2 := List.singleton_inj.1 e2
  subst e2
  refine Calls.mono (FnV.start (ntakes_s (size := p0) (n := p1) (i := p2) g2 g1.r g1.fit)) fun e W' ⟨v, he, hv, hE⟩ => ?_
  subst he
  subst hv
  have hBl : Below W.heap.size W W' := hE.below (Nat.le_refl _) (fun _ _ h => h)
  exact ⟨_, rfl, post_true (by kernel_rfl) rfl rfl (tb := 4) (by kernel_rfl) (by kernel_rfl) rfl rfl rfl hW' hBl⟩
theorem nodeTakes_holds : Rows.NodeTakesSaid :=
  OpenClaim.holds_of_wide 6 Try.f6 rfl rfl rfl rfl rfl rfl rfl ⟨rfl, rfl, rfl, rfl, rfl⟩ rfl rfl rfl rfl rfl (by kernel_rfl) Try.func6 (by kernel_rfl)
    (of_decide_eq_true (by kernel_rfl)) (by unfold Func.isWrapper; rw [if_neg (of_decide_eq_false (by kernel_rfl))]; exact ⟨rfl, rfl⟩)
    (fun os started H enc _ => nodeTakes_lifted os started H enc)
end Go.Proofs.Ytkcabddbeclokaa
