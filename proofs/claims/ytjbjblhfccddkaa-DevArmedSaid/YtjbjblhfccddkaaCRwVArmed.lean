/- The given statement DevArmedSaid: for every input the law returns true, and the arguments read as they did. -/
import Derived.Test.YtjbjblhfccddkaaCTV
import Derived.Test.YtjbjblhfccddkaaCR9
import Derived.Test.YtjbjblhfccddkaaCKB
import Derived.Test.YtjbjblhfccddkaaRows
namespace Go.Proofs.Ytjbjblhfccddkaa
open Go.ChangeShapes Go.WideShapes Go.ChangeAt Go.RowKit Go.Sx
theorem own' : ownKnob Try.prog.godebug = none := by kernel_rfl
theorem cons_of {α : Type} {l : List α} {n : Nat} (h : l.length = n + 1) : ∃ a r, l = a :: r ∧ r.length = n := by
  cases l with
  | nil => simp at h
  | cons a r => exact ⟨a, r, rfl, by simpa using h⟩
set_option maxRecDepth 100000 in
set_option maxHeartbeats 2000000 in
theorem devArmed_lifted (os : Os) (started : os.Started) (H : Type) (enc : TypeId × Value → H) :
    ReturnsInHanded {} Try.checked os 5 .any (Rows.devArmedSpec.pre6 enc Try.prog Try.f5 Rows.devArmedRow.domain false) (Rows.devArmedSpec.post enc Try.prog Try.f5 false true false false) := by
  refine returnsInHanded_of_change_sized (C := Try.checked) own' started (by kernel_rfl) Try.func5
    (ChangeSpec.witness6 (enc := enc) (C := Try.checked) false ⟨#[], #[.int .i64 0, .int .i64 0, .slice none 0 0, .int .i64 0, .int .i64 0, .bool false, .slice none 0 0], []⟩ 8 (by kernel_rfl) (by kernel_rfl) (by kernel_rfl) (by kernel_rfl)) ?_
  intro W base args ds gs before hval0 hW hcnd hsz0 hholds
  have hW' := hW
  obtain ⟨p, q, hA0, hV, rfl, hfz, hnd⟩ := hW
  have hA : DataW.TrodAll enc Try.prog W 0 (fun _ => true) true [3, 3, 47, 3, 3, 4, 47] args.toList ds p := hA0
  obtain ⟨rfl, rfl⟩ := trodVars_none hV
  have u3 : Try.prog.underlying 3 = some (.int .i64) := by kernel_rfl
  have u47 : Try.prog.underlying 47 = some (.slice 53) := by kernel_rfl
  have f53 : fieldsOf Try.prog 53 = [(3, 0), (3, 1), (3, 2), (3, 3), (5, 4), (29, 5), (24, 6), (4, 7)] := by kernel_rfl
  have c53 : Try.prog.cellsOf 53 = 8 := by kernel_rfl
  have u29 : Try.prog.underlying 29 = some (.slice 5) := by kernel_rfl
  have u5 : Try.prog.underlying 5 = some (.int .u8) := by kernel_rfl
  have c5 : Try.prog.cellsOf 5 = 1 := by kernel_rfl
  have y5 : Try.prog.bytesOf 5 = 1 := by kernel_rfl
  have c29 : Try.prog.cellsOf 29 = 1 := by kernel_rfl
  have c3 : Try.prog.cellsOf 3 = 1 := by kernel_rfl
  have y3 : Try.prog.bytesOf 3 = 8 := by kernel_rfl
  have u24 : Try.prog.underlying 24 = some (.slice 3) := by kernel_rfl
  have c24 : Try.prog.cellsOf 24 = 1 := by kernel_rfl
  have u4 : Try.prog.underlying 4 = some .bool := by kernel_rfl
  have c4 : Try.prog.cellsOf 4 = 1 := by kernel_rfl
  have y53 : Try.prog.bytesOf 53 = 96 := by kernel_rfl
  obtain ⟨v0, l1, d0, s1, q0, r1, k1, m1, n1, t0, hA1⟩ := trodAll_cons hA
  obtain ⟨v1, l2, d1, s2, q1, r2, k2, m2, n2, t1, hA2⟩ := trodAll_cons hA1
  obtain ⟨v2, l3, d2, s3, q2, r3, k3, m3, n3, t2, hA3⟩ := trodAll_cons hA2
  obtain ⟨v3, l4, d3, s4, q3, r4, k4, m4, n4, t3, hA4⟩ := trodAll_cons hA3
  obtain ⟨v4, l5, d4, s5, q4, r5, k5, m5, n5, t4, hA5⟩ := trodAll_cons hA4
  obtain ⟨v5, l6, d5, s6, q5, r6, k6, m6, n6, t5, hA6⟩ := trodAll_cons hA5
  obtain ⟨v6, l7, d6, s7, q6, r7, k7, m7, n7, t6, hA7⟩ := trodAll_cons hA6
  obtain ⟨k8, m8, n8⟩ := trodAll_nil hA7
  subst k8; subst m8
  subst k7; subst m7
  subst k6; subst m6
  subst k5; subst m5
  subst k4; subst m4
  subst k3; subst m3
  subst k2; subst m2
  obtain ⟨L⟩ := args
  have k1 : L = [v0, v1, v2, v3, v4, v5, v6] := k1
  subst k1; subst m1
  obtain ⟨z0, t0⟩ := t0
  have w0 : ∀ n ∈ d0.weights Try.prog 3, n ≤ reachBytes := fun n hn => by have := List.all_eq_true.1 hsz0 n (DataW.weights_mem_each (j := 0) rfl rfl n hn); simpa using this
  have o0 : Value.okWide Try.prog W .any base 3 v0 := hval0 0 _ v0 rfl rfl
  rw [okWide_intv u3 o0] at t0
  obtain ⟨p0, e0, g0⟩ := (opc_int u3).opens t0 w0
  have e0 := List.singleton_inj.1 e0
  subst e0
  obtain ⟨z1, t1⟩ := t1
  have w1 : ∀ n ∈ d1.weights Try.prog 3, n ≤ reachBytes := fun n hn => by have := List.all_eq_true.1 hsz0 n (DataW.weights_mem_each (j := 1) rfl rfl n hn); simpa using this
  have o1 : Value.okWide Try.prog W .any base 3 v1 := hval0 1 _ v1 rfl rfl
  rw [okWide_intv u3 o1] at t1
  obtain ⟨p1, e1, g1⟩ := (opc_int u3).opens t1 w1
  have e1 := List.singleton_inj.1 e1
  subst e1
  obtain ⟨z2, t2⟩ := t2
  have w2 : ∀ n ∈ d2.weights Try.prog 47, n ≤ reachBytes := fun n hn => by have := List.all_eq_true.1 hsz0 n (DataW.weights_mem_each (j := 2) rfl rfl n hn); simpa using this
  have o2 : Value.okWide Try.prog W .any base 47 v2 := hval0 2 _ v2 rfl rfl
  rw [okWide_slv u47 o2] at t2
  haveI := opc_vo f53 c53 c3 c5 c29 c24 c4 u3 u5 u29 u24 u4 y5 y3
  obtain ⟨a2, c2, p2, e2, g2⟩ := open_sl (E := 53) (α := VOp) (good := VOp.good) u47 c53 y53 t2 w2
  have e2 := List.singleton_inj.1 e2
  subst e2
  obtain ⟨z3, t3⟩ := t3
  have w3 : ∀ n ∈ d3.weights Try.prog 3, n ≤ reachBytes := fun n hn => by have := List.all_eq_true.1 hsz0 n (DataW.weights_mem_each (j := 3) rfl rfl n hn); simpa using this
  have o3 : Value.okWide Try.prog W .any base 3 v3 := hval0 3 _ v3 rfl rfl
  rw [okWide_intv u3 o3] at t3
  obtain ⟨p3, e3, g3⟩ := (opc_int u3).opens t3 w3
  have e3 := List.singleton_inj.1 e3
  subst e3
  obtain ⟨z4, t4⟩ := t4
  have w4 : ∀ n ∈ d4.weights Try.prog 3, n ≤ reachBytes := fun n hn => by have := List.all_eq_true.1 hsz0 n (DataW.weights_mem_each (j := 4) rfl rfl n hn); simpa using this
  have o4 : Value.okWide Try.prog W .any base 3 v4 := hval0 4 _ v4 rfl rfl
  rw [okWide_intv u3 o4] at t4
  obtain ⟨p4, e4, g4⟩ := (opc_int u3).opens t4 w4
  have e4 := List.singleton_inj.1 e4
  subst e4
  obtain ⟨z5, t5⟩ := t5
  have w5 : ∀ n ∈ d5.weights Try.prog 4, n ≤ reachBytes := fun n hn => by have := List.all_eq_true.1 hsz0 n (DataW.weights_mem_each (j := 5) rfl rfl n hn); simpa using this
  have o5 : Value.okWide Try.prog W .any base 4 v5 := hval0 5 _ v5 rfl rfl
  rw [okWide_boolv u4 o5] at t5
  obtain ⟨p5, e5⟩ := open_bool u4 t5
  have e5 := List.singleton_inj.1 e5
  subst e5
  obtain ⟨z6, t6⟩ := t6
  have w6 : ∀ n ∈ d6.weights Try.prog 47, n ≤ reachBytes := fun n hn => by have := List.all_eq_true.1 hsz0 n (DataW.weights_mem_each (j := 6) rfl rfl n hn); simpa using this
  have o6 : Value.okWide Try.prog W .any base 47 v6 := hval0 6 _ v6 rfl rfl
  rw [okWide_slv u47 o6] at t6
  haveI := opc_vo f53 c53 c3 c5 c29 c24 c4 u3 u5 u29 u24 u4 y5 y3
  obtain ⟨a6, c6, p6, e6, g6⟩ := open_sl (E := 53) (α := VOp) (good := VOp.good) u47 c53 y53 t6 w6
  have e6 := List.singleton_inj.1 e6
  subst e6
  refine Calls.mono (FnV.start (armed_law g0 g1 g3 g4 g2.sl.r0 g6.sl.r0 (fun o ho => (g2.el o ho).r) (fun o ho => (g6.el o ho).r))) fun e W' ⟨v, he, hv, hE⟩ => ?_
  subst he
  subst hv
  have hBl : Below W.heap.size W W' := hE.below (Nat.le_refl _) (fun _ _ h => h)
  exact ⟨_, rfl, post_true (by kernel_rfl) rfl rfl (tb := 4) (by kernel_rfl) (by kernel_rfl) rfl rfl rfl hW' hBl⟩
theorem devArmed_holds : Rows.DevArmedSaid :=
  OpenClaim.holds_of_wide 5 Try.f5 rfl rfl rfl rfl rfl rfl rfl ⟨rfl, rfl, rfl, rfl, rfl⟩ rfl rfl rfl rfl rfl (by kernel_rfl) Try.func5 (by kernel_rfl)
    (of_decide_eq_true (by kernel_rfl)) (by unfold Func.isWrapper; rw [if_neg (of_decide_eq_false (by kernel_rfl))]; exact ⟨rfl, rfl⟩)
    (fun os started H enc _ => devArmed_lifted os started H enc)
end Go.Proofs.Ytjbjblhfccddkaa
