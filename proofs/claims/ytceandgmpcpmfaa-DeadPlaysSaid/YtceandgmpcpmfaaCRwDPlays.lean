/- The given statement DeadPlaysSaid: for every input the law returns true, and the arguments read as they did. -/
import Derived.Test.YtceandgmpcpmfaaCDK
import Derived.Test.YtceandgmpcpmfaaCR5
import Derived.Test.YtceandgmpcpmfaaCKB
import Derived.Test.YtceandgmpcpmfaaRows
namespace Go.Proofs.Ytceandgmpcpmfaa
open Go.ChangeShapes Go.WideShapes Go.ChangeAt Go.RowKit Go.Sx
theorem own' : ownKnob Try.prog.godebug = none := by kernel_rfl
theorem cons_of {α : Type} {l : List α} {n : Nat} (h : l.length = n + 1) : ∃ a r, l = a :: r ∧ r.length = n := by
  cases l with
  | nil => simp at h
  | cons a r => exact ⟨a, r, rfl, by simpa using h⟩
set_option maxRecDepth 100000 in
set_option maxHeartbeats 2000000 in
theorem deadPlays_lifted (os : Os) (started : os.Started) (H : Type) (enc : TypeId × Value → H) :
    ReturnsInHanded {} Try.checked os 4 .any (Rows.deadPlaysSpec.pre6 enc Try.prog Try.f4 Rows.deadPlaysRow.domain false) (Rows.deadPlaysSpec.post enc Try.prog Try.f4 false true false false) := by
  refine returnsInHanded_of_change_sized (C := Try.checked) own' started (by kernel_rfl) Try.func4
    (ChangeSpec.witness6 (enc := enc) (C := Try.checked) false ⟨#[], #[.slice none 0 0], []⟩ 8 (by kernel_rfl) (by kernel_rfl) (by kernel_rfl) (by kernel_rfl)) ?_
  intro W base args ds gs before hval0 hW hcnd hsz0 hholds
  have hW' := hW
  obtain ⟨p, q, hA0, hV, rfl, hfz, hnd⟩ := hW
  have hA : DataW.TrodAll enc Try.prog W 0 (fun _ => true) true [23] args.toList ds p := hA0
  obtain ⟨rfl, rfl⟩ := trodVars_none hV
  have u23 : Try.prog.underlying 23 = some (.slice 37) := by kernel_rfl
  have f37 : fieldsOf Try.prog 37 = [(3, 0), (3, 1), (34, 2), (35, 5), (32, 6)] := by kernel_rfl
  have c37 : Try.prog.cellsOf 37 = 7 := by kernel_rfl
  have f34 : fieldsOf Try.prog 34 = [(3, 0), (32, 1), (32, 2)] := by kernel_rfl
  have c34 : Try.prog.cellsOf 34 = 3 := by kernel_rfl
  have c3 : Try.prog.cellsOf 3 = 1 := by kernel_rfl
  have c32 : Try.prog.cellsOf 32 = 1 := by kernel_rfl
  have u3 : Try.prog.underlying 3 = some (.int .i64) := by kernel_rfl
  have u32 : Try.prog.underlying 32 = some (.int .u64) := by kernel_rfl
  have u35 : Try.prog.underlying 35 = some (.slice 32) := by kernel_rfl
  have c35 : Try.prog.cellsOf 35 = 1 := by kernel_rfl
  have y32 : Try.prog.bytesOf 32 = 8 := by kernel_rfl
  have y37 : Try.prog.bytesOf 37 = 72 := by kernel_rfl
  obtain ⟨v0, l1, d0, s1, q0, r1, k1, m1, n1, t0, hA1⟩ := trodAll_cons hA
  obtain ⟨k2, m2, n2⟩ := trodAll_nil hA1
  subst k2; subst m2
  obtain ⟨L⟩ := args
  have k1 : L = [v0] := k1
  subst k1; subst m1
  obtain ⟨z0, t0⟩ := t0
  have w0 : ∀ n ∈ d0.weights Try.prog 23, n ≤ reachBytes := fun n hn => by have := List.all_eq_true.1 hsz0 n (DataW.weights_mem_each (j := 0) rfl rfl n hn); simpa using this
  have o0 : Value.okWide Try.prog W .any base 23 v0 := hval0 0 _ v0 rfl rfl
  rw [okWide_slv u23 o0] at t0
  haveI := opc_op f37 c37 c3 c34 c32 c35 u3 u35 u32 y32 (opc_lf f34 c34 c3 c32 u3 u32)
  obtain ⟨a0, c0, p0, e0, g0⟩ := open_sl (E := 37) (α := DOp) (good := DOp.good) u23 c37 y37 t0 w0
  have e0 := List.singleton_inj.1 e0
  subst e0
  refine Calls.mono (FnV.start (plays_law g0.sl.r0 (by have := g0.sz; simp only [Rb] at this; omega) (fun o ho => ⟨(g0.el o ho).2.sl.r0, by have := (g0.el o ho).2.sz; simp only [Rb] at this; omega, (g0.el o ho).1⟩))) fun e W' ⟨v, he, hv, hE⟩ => ?_
  subst he
  subst hv
  have hBl : Below W.heap.size W W' := hE.below (Nat.le_refl _) (fun _ _ h => h)
  exact ⟨_, rfl, post_true (by kernel_rfl) rfl rfl (tb := 4) (by kernel_rfl) (by kernel_rfl) rfl rfl rfl hW' hBl⟩
theorem deadPlays_holds : Rows.DeadPlaysSaid :=
  OpenClaim.holds_of_wide 4 Try.f4 rfl rfl rfl rfl rfl rfl rfl ⟨rfl, rfl, rfl, rfl, rfl⟩ rfl rfl rfl rfl rfl (by kernel_rfl) Try.func4 (by kernel_rfl)
    (of_decide_eq_true (by kernel_rfl)) (by unfold Func.isWrapper; rw [if_neg (of_decide_eq_false (by kernel_rfl))]; exact ⟨rfl, rfl⟩)
    (fun os started H enc _ => deadPlays_lifted os started H enc)
end Go.Proofs.Ytceandgmpcpmfaa
