/- The given statement DevFatesSaid: for every input the law returns true, and the arguments read as they did. -/
import Derived.Test.YtjbjblhfccddkaaCTX
import Derived.Test.YtjbjblhfccddkaaCR9
import Derived.Test.YtjbjblhfccddkaaCKB
import Derived.Test.YtjbjblhfccddkaaRows
namespace Go.Proofs.Ytjbjblhfccddkaa
open Go.ChangeShapes Go.WideShapes Go.ChangeAt Go.RowKit Go.Sx
theorem own' : ownKnob Try.prog.godebug = none := by kernel_rfl
theorem cons_of {α : Type} {l : List α} {n : Nat} (h : l.length = n + 1) : ∃ a r, l = a :: r ∧ r.length = n := by
  cases l with
  | nil => simp at h
  | cons a r => exact ⟨a, r, rfl, by simpa using h⟩
set_option maxRecDepth 100000 in
set_option maxHeartbeats 2000000 in
theorem devFates_lifted (os : Os) (started : os.Started) (H : Type) (enc : TypeId × Value → H) :
    ReturnsInHanded {} Try.checked os 4 .any (Rows.devFatesSpec.pre6 enc Try.prog Try.f4 Rows.devFatesRow.domain false) (Rows.devFatesSpec.post enc Try.prog Try.f4 false true false false) := by
  refine returnsInHanded_of_change_sized (C := Try.checked) own' started (by kernel_rfl) Try.func4
    (ChangeSpec.witness6 (enc := enc) (C := Try.checked) false ⟨#[], #[.int .i64 0, .int .i64 0, .slice none 0 0, .slice none 0 0, .slice none 0 0], []⟩ 8 (by kernel_rfl) (by kernel_rfl) (by kernel_rfl) (by kernel_rfl)) ?_
  intro W base args ds gs before hval0 hW hcnd hsz0 hholds
  have hW' := hW
  obtain ⟨p, q, hA0, hV, rfl, hfz, hnd⟩ := hW
  have hA : DataW.TrodAll enc Try.prog W 0 (fun _ => true) true [3, 3, 23, 23, 24] args.toList ds p := hA0
  obtain ⟨rfl, rfl⟩ := trodVars_none hV
  have u3 : Try.prog.underlying 3 = some (.int .i64) := by kernel_rfl
  have u23 : Try.prog.underlying 23 = some (.slice 31) := by kernel_rfl
  have f31 : fieldsOf Try.prog 31 = [(3, 0), (29, 1)] := by kernel_rfl
  have c31 : Try.prog.cellsOf 31 = 2 := by kernel_rfl
  have u29 : Try.prog.underlying 29 = some (.slice 5) := by kernel_rfl
  have u5 : Try.prog.underlying 5 = some (.int .u8) := by kernel_rfl
  have c5 : Try.prog.cellsOf 5 = 1 := by kernel_rfl
  have y5 : Try.prog.bytesOf 5 = 1 := by kernel_rfl
  have c29 : Try.prog.cellsOf 29 = 1 := by kernel_rfl
  have c3 : Try.prog.cellsOf 3 = 1 := by kernel_rfl
  have y31 : Try.prog.bytesOf 31 = 32 := by kernel_rfl
  have u24 : Try.prog.underlying 24 = some (.slice 3) := by kernel_rfl
  have y3 : Try.prog.bytesOf 3 = 8 := by kernel_rfl
  obtain ⟨v0, l1, d0, s1, q0, r1, k1, m1, n1, t0, hA1⟩ := trodAll_cons hA
  obtain ⟨v1, l2, d1, s2, q1, r2, k2, m2, n2, t1, hA2⟩ := trodAll_cons hA1
  obtain ⟨v2, l3, d2, s3, q2, r3, k3, m3, n3, t2, hA3⟩ := trodAll_cons hA2
  obtain ⟨v3, l4, d3, s4, q3, r4, k4, m4, n4, t3, hA4⟩ := trodAll_cons hA3
  obtain ⟨v4, l5, d4, s5, q4, r5, k5, m5, n5, t4, hA5⟩ := trodAll_cons hA4
  obtain ⟨k6, m6, n6⟩ := trodAll_nil hA5
  subst k6; subst m6
  subst k5; subst m5
  subst k4; subst m4
  subst k3; subst m3
  subst k2; subst m2
  obtain ⟨L⟩ := args
  have k1 : L = [v0, v1, v2, v3, v4] := k1
  subst k1; subst m1
  obtain ⟨z0, t0⟩ := t0
  have w0 : ∀ n ∈ d0.weights Try.prog 3, n ≤ reachBytes := fun n hn => by have := List.all_eq_true.1 hsz0 n (DataW.weights_mem_each (j := 0) rfl rfl n hn); simpa using this
  have o0 : Value.okWide Try.prog W .any base 3 v0 := hval0 0 _ v0 rfl rfl
  rw [okWide_intv u3 o0] at t0
  obtain ⟨p0, e0, g0⟩ := (opc_int u3).opens t0 w0
  have e0 := List.singleton_inj.1 e0
  subst e0
  obtain ⟨z1, t1⟩ := t1
  have w1 : ∀ n ∈ d1.weights Try.prog 3, n ≤ reachBytes := fun n hn => by have := List.all_eq_true.1 hsz0 n (DataW.weights_mem_each (j := 1) rfl rfl n hn); simpa using this
  have o1 : Value.okWide Try.prog W .any base 3 v1 := hval0 1 _ v1 rfl rfl
  rw [okWide_intv u3 o1] at t1
  obtain ⟨p1, e1, g1⟩ := (opc_int u3).opens t1 w1
  have e1 := List.singleton_inj.1 e1
  subst e1
  obtain ⟨z2, t2⟩ := t2
  have w2 : ∀ n ∈ d2.weights Try.prog 23, n ≤ reachBytes := fun n hn => by have := List.all_eq_true.1 hsz0 n (DataW.weights_mem_each (j := 2) rfl rfl n hn); simpa using this
  have o2 : Value.okWide Try.prog W .any base 23 v2 := hval0 2 _ v2 rfl rfl
  rw [okWide_slv u23 o2] at t2
  haveI := opc_pl f31 c31 c3 c5 c29 u3 u5 u29 y5
  obtain ⟨a2, cq2, p2, e2, g2⟩ := open_sl (E := 31) (α := Pl) (good := Pl.good) u23 c31 y31 t2 w2
  have e2 := List.singleton_inj.1 e2
  subst e2
  obtain ⟨z3, t3⟩ := t3
  have w3 : ∀ n ∈ d3.weights Try.prog 23, n ≤ reachBytes := fun n hn => by have := List.all_eq_true.1 hsz0 n (DataW.weights_mem_each (j := 3) rfl rfl n hn); simpa using this
  have o3 : Value.okWide Try.prog W .any base 23 v3 := hval0 3 _ v3 rfl rfl
  rw [okWide_slv u23 o3] at t3
  haveI := opc_pl f31 c31 c3 c5 c29 u3 u5 u29 y5
  obtain ⟨a3, cq3, p3, e3, g3⟩ := open_sl (E := 31) (α := Pl) (good := Pl.good) u23 c31 y31 t3 w3
  have e3 := List.singleton_inj.1 e3
  subst e3
  obtain ⟨z4, t4⟩ := t4
  have w4 : ∀ n ∈ d4.weights Try.prog 24, n ≤ reachBytes := fun n hn => by have := List.all_eq_true.1 hsz0 n (DataW.weights_mem_each (j := 4) rfl rfl n hn); simpa using this
  have o4 : Value.okWide Try.prog W .any base 24 v4 := hval0 4 _ v4 rfl rfl
  rw [okWide_slv u24 o4] at t4
  haveI := opc_int u3
  obtain ⟨a4, cq4, p4, e4, g4⟩ := open_sl (E := 3) (α := Int) (good := (fun _ n => -9223372036854775808 ≤ n ∧ n ≤ 9223372036854775807)) u24 c3 y3 t4 w4
  have e4 := List.singleton_inj.1 e4
  subst e4
  refine Calls.mono (FnV.start (fates_law g0 g1 g2.sl.r0 g3.sl.r0 g4.sl.r0 (by have := g4.sz; simp only [Rb] at this; omega) (fun o ho => (g2.el o ho).1) (fun o ho => ⟨(g3.el o ho).1, (g3.el o ho).2.1.r0, by have := (g3.el o ho).2.2; simp only [Rb] at this; omega⟩))) fun e W' ⟨v, he, hv, hE⟩ => ?_
  subst he
  subst hv
  have hBl : Below W.heap.size W W' := hE.below (Nat.le_refl _) (fun _ _ h => h)
  exact ⟨_, rfl, post_true (by kernel_rfl) rfl rfl (tb := 4) (by kernel_rfl) (by kernel_rfl) rfl rfl rfl hW' hBl⟩
theorem devFates_holds : Rows.DevFatesSaid :=
  OpenClaim.holds_of_wide 4 Try.f4 rfl rfl rfl rfl rfl rfl rfl ⟨rfl, rfl, rfl, rfl, rfl⟩ rfl rfl rfl rfl rfl (by kernel_rfl) Try.func4 (by kernel_rfl)
    (of_decide_eq_true (by kernel_rfl)) (by unfold Func.isWrapper; rw [if_neg (of_decide_eq_false (by kernel_rfl))]; exact ⟨rfl, rfl⟩)
    (fun os started H enc _ => devFates_lifted os started H enc)
end Go.Proofs.Ytjbjblhfccddkaa
