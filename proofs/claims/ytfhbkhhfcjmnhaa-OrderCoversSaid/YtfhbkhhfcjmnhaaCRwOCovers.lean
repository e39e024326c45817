/- The given statement OrderCoversSaid: for every input the law returns true, and the arguments read as they did. -/
import Derived.Test.YtfhbkhhfcjmnhaaCOZ
import Derived.Test.YtfhbkhhfcjmnhaaCR3
import Derived.Test.YtfhbkhhfcjmnhaaCKB
import Derived.Test.YtfhbkhhfcjmnhaaRows
namespace Go.Proofs.Ytfhbkhhfcjmnhaa
open Go.ChangeShapes Go.WideShapes Go.ChangeAt Go.RowKit Go.Sx
theorem own' : ownKnob Try.prog.godebug = none := by kernel_rfl
theorem cons_of {α : Type} {l : List α} {n : Nat} (h : l.length = n + 1) : ∃ a r, l = a :: r ∧ r.length = n := by
  cases l with
  | nil => simp at h
  | cons a r => exact ⟨a, r, rfl, by simpa using h⟩
set_option maxRecDepth 100000 in
set_option maxHeartbeats 2000000 in
theorem orderCovers_lifted (os : Os) (started : os.Started) (H : Type) (enc : TypeId × Value → H) :
    ReturnsInHanded {} Try.checked os 4 .any (Rows.orderCoversSpec.pre6 enc Try.prog Try.f4 Rows.orderCoversRow.domain false) (Rows.orderCoversSpec.post enc Try.prog Try.f4 false true false false) := by
  refine returnsInHanded_of_change_sized (C := Try.checked) own' started (by kernel_rfl) Try.func4
    (ChangeSpec.witness6 (enc := enc) (C := Try.checked) false ⟨#[], #[.slice none 0 0], []⟩ 8 (by kernel_rfl) (by kernel_rfl) (by kernel_rfl) (by kernel_rfl)) ?_
  intro W base args ds gs before hval0 hW hcnd hsz0 hholds
  have hW' := hW
  obtain ⟨p, q, hA0, hV, rfl, hfz, hnd⟩ := hW
  have hA : DataW.TrodAll enc Try.prog W 0 (fun _ => true) true [23] args.toList ds p := hA0
  obtain ⟨rfl, rfl⟩ := trodVars_none hV
  have u23 : Try.prog.underlying 23 = some (.slice 26) := by kernel_rfl
  have f26 : fieldsOf Try.prog 26 = [(24, 0), (24, 1), (4, 2)] := by kernel_rfl
  have c26 : Try.prog.cellsOf 26 = 3 := by kernel_rfl
  have u24 : Try.prog.underlying 24 = some (.slice 5) := by kernel_rfl
  have u5 : Try.prog.underlying 5 = some (.int .u8) := by kernel_rfl
  have c5 : Try.prog.cellsOf 5 = 1 := by kernel_rfl
  have y5 : Try.prog.bytesOf 5 = 1 := by kernel_rfl
  have c24 : Try.prog.cellsOf 24 = 1 := by kernel_rfl
  have u4 : Try.prog.underlying 4 = some .bool := by kernel_rfl
  have c4 : Try.prog.cellsOf 4 = 1 := by kernel_rfl
  have y26 : Try.prog.bytesOf 26 = 56 := by kernel_rfl
  obtain ⟨v0, l1, d0, s1, q0, r1, k1, m1, n1, t0, hA1⟩ := trodAll_cons hA
  obtain ⟨k2, m2, n2⟩ := trodAll_nil hA1
  subst k2; subst m2
  obtain ⟨L⟩ := args
  have k1 : L = [v0] := k1
  subst k1; subst m1
  obtain ⟨z0, t0⟩ := t0
  have w0 : ∀ n ∈ d0.weights Try.prog 23, n ≤ reachBytes := fun n hn => by have := List.all_eq_true.1 hsz0 n (DataW.weights_mem_each (j := 0) rfl rfl n hn); simpa using this
  have o0 : Value.okWide Try.prog W .any base 23 v0 := hval0 0 _ v0 rfl rfl
  rw [okWide_slv u23 o0] at t0
  haveI := opc_rg f26 c26 c24 c4 u24 u5 c5 y5 u4
  obtain ⟨a0, c0, p0, e0, g0⟩ := open_sl (E := 26) (α := Rg) (good := Rg.good) u23 c26 y26 t0 w0
  have e0 := List.singleton_inj.1 e0
  subst e0
  refine Calls.mono (FnV.start (ocovers_s g0.sl.r0 (fun r hr => ⟨(g0.el r hr).1.1.r0, (g0.el r hr).1.2.r0⟩) (fun r hr => ⟨by have := (g0.el r hr).2.1; simp only [Rb] at this; omega, by have := (g0.el r hr).2.2; simp only [Rb] at this; omega⟩))) fun e W' ⟨v, he, hv, hE⟩ => ?_
  subst he
  subst hv
  have hBl : Below W.heap.size W W' := hE.below (Nat.le_refl _) (fun _ _ h => h)
  exact ⟨_, rfl, post_true (by kernel_rfl) rfl rfl (tb := 4) (by kernel_rfl) (by kernel_rfl) rfl rfl rfl hW' hBl⟩
theorem orderCovers_holds : Rows.OrderCoversSaid :=
  OpenClaim.holds_of_wide 4 Try.f4 rfl rfl rfl rfl rfl rfl rfl ⟨rfl, rfl, rfl, rfl, rfl⟩ rfl rfl rfl rfl rfl (by kernel_rfl) Try.func4 (by kernel_rfl)
    (of_decide_eq_true (by kernel_rfl)) (by unfold Func.isWrapper; rw [if_neg (of_decide_eq_false (by kernel_rfl))]; exact ⟨rfl, rfl⟩)
    (fun os started H enc _ => orderCovers_lifted os started H enc)
end Go.Proofs.Ytfhbkhhfcjmnhaa
