/- The given statement MsgFormSaid: for every input the law returns true, and the arguments read as they did. -/
import Derived.Test.YtimakbpghggdfaaCGQ
import Derived.Test.YtimakbpghggdfaaCR8j
import Derived.Test.YtimakbpghggdfaaCKB
import Derived.Test.YtimakbpghggdfaaRows
namespace Go.Proofs.Ytimakbpghggdfaa
open Go.ChangeShapes Go.WideShapes Go.ChangeAt Go.RowKit Go.Sx
theorem own' : ownKnob Try.prog.godebug = none := by kernel_rfl
theorem cons_of {α : Type} {l : List α} {n : Nat} (h : l.length = n + 1) : ∃ a r, l = a :: r ∧ r.length = n := by
  cases l with
  | nil => simp at h
  | cons a r => exact ⟨a, r, rfl, by simpa using h⟩
set_option maxRecDepth 100000 in
set_option maxHeartbeats 2000000 in
theorem msgForm_lifted (os : Os) (started : os.Started) (H : Type) (enc : TypeId × Value → H) :
    ReturnsInHanded {} Try.checked os 4 .any (Rows.msgFormSpec.pre6 enc Try.prog Try.f4 Rows.msgFormRow.domain false) (Rows.msgFormSpec.post enc Try.prog Try.f4 false true false false) := by
  refine returnsInHanded_of_change_sized (C := Try.checked) own' started (by kernel_rfl) Try.func4
    (ChangeSpec.witness6 (enc := enc) (C := Try.checked) false ⟨#[], #[.slice none 0 0, .slice none 0 0], []⟩ 8 (by kernel_rfl) (by kernel_rfl) (by kernel_rfl) (by kernel_rfl)) ?_
  intro W base args ds gs before hval0 hW hcnd hsz0 hholds
  have hW' := hW
  obtain ⟨p, q, hA0, hV, rfl, hfz, hnd⟩ := hW
  have hA : DataW.TrodAll enc Try.prog W 0 (fun _ => true) true [23, 24] args.toList ds p := hA0
  obtain ⟨rfl, rfl⟩ := trodVars_none hV
  have u23 : Try.prog.underlying 23 = some (.slice 32) := by kernel_rfl
  have f32 : fieldsOf Try.prog 32 = [(29, 0), (30, 1), (24, 2), (24, 3), (24, 4)] := by kernel_rfl
  have c32 : Try.prog.cellsOf 32 = 5 := by kernel_rfl
  have u24 : Try.prog.underlying 24 = some (.slice 5) := by kernel_rfl
  have u5 : Try.prog.underlying 5 = some (.int .u8) := by kernel_rfl
  have c5 : Try.prog.cellsOf 5 = 1 := by kernel_rfl
  have y5 : Try.prog.bytesOf 5 = 1 := by kernel_rfl
  have c24 : Try.prog.cellsOf 24 = 1 := by kernel_rfl
  have c29 : Try.prog.cellsOf 29 = 1 := by kernel_rfl
  have c30 : Try.prog.cellsOf 30 = 1 := by kernel_rfl
  have u29 : Try.prog.underlying 29 = some (.int .u64) := by kernel_rfl
  have u30 : Try.prog.underlying 30 = some (.int .i64) := by kernel_rfl
  have y32 : Try.prog.bytesOf 32 = 88 := by kernel_rfl
  obtain ⟨v0, l1, d0, s1, q0, r1, k1, m1, n1, t0, hA1⟩ := trodAll_cons hA
  obtain ⟨v1, l2, d1, s2, q1, r2, k2, m2, n2, t1, hA2⟩ := trodAll_cons hA1
  obtain ⟨k3, m3, n3⟩ := trodAll_nil hA2
  subst k3; subst m3
  subst k2; subst m2
  obtain ⟨L⟩ := args
  have k1 : L = [v0, v1] := k1
  subst k1; subst m1
  obtain ⟨z0, t0⟩ := t0
  have w0 : ∀ n ∈ d0.weights Try.prog 23, n ≤ reachBytes := fun n hn => by have := List.all_eq_true.1 hsz0 n (DataW.weights_mem_each (j := 0) rfl rfl n hn); simpa using this
  have o0 : Value.okWide Try.prog W .any base 23 v0 := hval0 0 _ v0 rfl rfl
  rw [okWide_slv u23 o0] at t0
  haveI := opc_mg f32 c32 c29 c30 c24 u29 u30 u24 u5 c5 y5
  obtain ⟨a0, c0, p0, e0, g0⟩ := open_sl (E := 32) (α := Mg) (good := Mg.good) u23 c32 y32 t0 w0
  have e0 := List.singleton_inj.1 e0
  subst e0
  obtain ⟨z1, t1⟩ := t1
  have w1 : ∀ n ∈ d1.weights Try.prog 24, n ≤ reachBytes := fun n hn => by have := List.all_eq_true.1 hsz0 n (DataW.weights_mem_each (j := 1) rfl rfl n hn); simpa using this
  have o1 : Value.okWide Try.prog W .any base 24 v1 := hval0 1 _ v1 rfl rfl
  rw [okWide_slv u24 o1] at t1
  obtain ⟨p1, e1, g1⟩ := (opc_sb u24 u5 c5 y5).opens t1 w1
  have e1 := List.singleton_inj.1 e1
  subst e1
  refine Calls.mono (FnV.start (lform_s (ms := p0) (key := p1.xs) (gsl_ms g0) g1.1.r0 (gsl_len g0))) fun e W' ⟨v, he, hv, hE⟩ => ?_
  subst he
  subst hv
  have hBl : Below W.heap.size W W' := hE.below (Nat.le_refl _) (fun _ _ h => h)
  exact ⟨_, rfl, post_true (by kernel_rfl) rfl rfl (tb := 4) (by kernel_rfl) (by kernel_rfl) rfl rfl rfl hW' hBl⟩
theorem msgForm_holds : Rows.MsgFormSaid :=
  OpenClaim.holds_of_wide 4 Try.f4 rfl rfl rfl rfl rfl rfl rfl ⟨rfl, rfl, rfl, rfl, rfl⟩ rfl rfl rfl rfl rfl (by kernel_rfl) Try.func4 (by kernel_rfl)
    (of_decide_eq_true (by kernel_rfl)) (by unfold Func.isWrapper; rw [if_neg (of_decide_eq_false (by kernel_rfl))]; exact ⟨rfl, rfl⟩)
    (fun os started H enc _ => msgForm_lifted os started H enc)
end Go.Proofs.Ytimakbpghggdfaa
