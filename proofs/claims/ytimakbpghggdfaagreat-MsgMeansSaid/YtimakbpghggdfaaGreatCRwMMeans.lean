/- The given statement MsgMeansSaid: for every input the law returns true, and the arguments read as they did. -/
import Derived.Test.YtimakbpghggdfaaGreatCZO
import Derived.Test.YtimakbpghggdfaaGreatCR8j
import Derived.Test.YtimakbpghggdfaaGreatCKB
import Derived.Test.YtimakbpghggdfaaGreatRows
namespace Go.Proofs.YtimakbpghggdfaaGreat
open Go.ChangeShapes Go.WideShapes Go.ChangeAt Go.RowKit Go.Sx
theorem own' : ownKnob Tryz.prog.godebug = none := by kernel_rfl
theorem cons_of {α : Type} {l : List α} {n : Nat} (h : l.length = n + 1) : ∃ a r, l = a :: r ∧ r.length = n := by
  cases l with
  | nil => simp at h
  | cons a r => exact ⟨a, r, rfl, by simpa using h⟩
set_option maxRecDepth 100000 in
set_option maxHeartbeats 2000000 in
theorem msgMeans_lifted (os : Os) (started : os.Started) (H : Type) (enc : TypeId × Value → H) :
    ReturnsInHanded {} Tryz.checked os 4 .any (Rows.msgMeansSpec.pre6 enc Tryz.prog Tryz.f4 Rows.msgMeansRow.domain false) (Rows.msgMeansSpec.post enc Tryz.prog Tryz.f4 false true false false) := by
  refine returnsInHanded_of_change_sized (C := Tryz.checked) own' started (by kernel_rfl) Tryz.func4
    (ChangeSpec.witness6 (enc := enc) (C := Tryz.checked) false ⟨#[], #[.slice none 0 0, .slice none 0 0, .slice none 0 0, .slice none 0 0], []⟩ 8 (by kernel_rfl) (by kernel_rfl) (by kernel_rfl) (by kernel_rfl)) ?_
  intro W base args ds gs before hval0 hW hcnd hsz0 hholds
  have hW' := hW
  obtain ⟨p, q, hA0, hV, rfl, hfz, hnd⟩ := hW
  have hA : DataW.TrodAll enc Tryz.prog W 0 (fun _ => true) true [23, 23, 23, 22] args.toList ds p := hA0
  obtain ⟨rfl, rfl⟩ := trodVars_none hV
  have u23 : Tryz.prog.underlying 23 = some (.slice 35) := by kernel_rfl
  have f35 : fieldsOf Tryz.prog 35 = [(32, 0), (33, 1), (24, 2), (24, 3), (24, 4)] := by kernel_rfl
  have c35 : Tryz.prog.cellsOf 35 = 5 := by kernel_rfl
  have u24 : Tryz.prog.underlying 24 = some (.slice 5) := by kernel_rfl
  have u5 : Tryz.prog.underlying 5 = some (.int .u8) := by kernel_rfl
  have c5 : Tryz.prog.cellsOf 5 = 1 := by kernel_rfl
  have y5 : Tryz.prog.bytesOf 5 = 1 := by kernel_rfl
  have c24 : Tryz.prog.cellsOf 24 = 1 := by kernel_rfl
  have c32 : Tryz.prog.cellsOf 32 = 1 := by kernel_rfl
  have c33 : Tryz.prog.cellsOf 33 = 1 := by kernel_rfl
  have u32 : Tryz.prog.underlying 32 = some (.int .u64) := by kernel_rfl
  have u33 : Tryz.prog.underlying 33 = some (.int .i64) := by kernel_rfl
  have y35 : Tryz.prog.bytesOf 35 = 88 := by kernel_rfl
  have u22 : Tryz.prog.underlying 22 = some (.slice 31) := by kernel_rfl
  have f31 : fieldsOf Tryz.prog 31 = [(24, 0), (24, 1)] := by kernel_rfl
  have c31 : Tryz.prog.cellsOf 31 = 2 := by kernel_rfl
  have y31 : Tryz.prog.bytesOf 31 = 48 := by kernel_rfl
  obtain ⟨v0, l1, d0, s1, q0, r1, k1, m1, n1, t0, hA1⟩ := trodAll_cons hA
  obtain ⟨v1, l2, d1, s2, q1, r2, k2, m2, n2, t1, hA2⟩ := trodAll_cons hA1
  obtain ⟨v2, l3, d2, s3, q2, r3, k3, m3, n3, t2, hA3⟩ := trodAll_cons hA2
  obtain ⟨v3, l4, d3, s4, q3, r4, k4, m4, n4, t3, hA4⟩ := trodAll_cons hA3
  obtain ⟨k5, m5, n5⟩ := trodAll_nil hA4
  subst k5; subst m5
  subst k4; subst m4
  subst k3; subst m3
  subst k2; subst m2
  obtain ⟨L⟩ := args
  have k1 : L = [v0, v1, v2, v3] := k1
  subst k1; subst m1
  obtain ⟨z0, t0⟩ := t0
  have w0 : ∀ n ∈ d0.weights Tryz.prog 23, n ≤ reachBytes := fun n hn => by have := List.all_eq_true.1 hsz0 n (DataW.weights_mem_each (j := 0) rfl rfl n hn); simpa using this
  have o0 : Value.okWide Tryz.prog W .any base 23 v0 := hval0 0 _ v0 rfl rfl
  rw [okWide_slv u23 o0] at t0
  haveI := opc_mg f35 c35 c32 c33 c24 u32 u33 u24 u5 c5 y5
  obtain ⟨a0, c0, p0, e0, g0⟩ := open_sl (E := 35) (α := Mg) (good := Mg.good) u23 c35 y35 t0 w0
  have e0 := List.singleton_inj.1 e0
  subst e0
  obtain ⟨z1, t1⟩ := t1
  have w1 : ∀ n ∈ d1.weights Tryz.prog 23, n ≤ reachBytes := fun n hn => by have := List.all_eq_true.1 hsz0 n (DataW.weights_mem_each (j := 1) rfl rfl n hn); simpa using this
  have o1 : Value.okWide Tryz.prog W .any base 23 v1 := hval0 1 _ v1 rfl rfl
  rw [okWide_slv u23 o1] at t1
  haveI := opc_mg f35 c35 c32 c33 c24 u32 u33 u24 u5 c5 y5
  obtain ⟨a1, c1, p1, e1, g1⟩ := open_sl (E := 35) (α := Mg) (good := Mg.good) u23 c35 y35 t1 w1
  have e1 := List.singleton_inj.1 e1
  subst e1
  obtain ⟨z2, t2⟩ := t2
  have w2 : ∀ n ∈ d2.weights Tryz.prog 23, n ≤ reachBytes := fun n hn => by have := List.all_eq_true.1 hsz0 n (DataW.weights_mem_each (j := 2) rfl rfl n hn); simpa using this
  have o2 : Value.okWide Tryz.prog W .any base 23 v2 := hval0 2 _ v2 rfl rfl
  rw [okWide_slv u23 o2] at t2
  haveI := opc_mg f35 c35 c32 c33 c24 u32 u33 u24 u5 c5 y5
  obtain ⟨a2, c2, p2, e2, g2⟩ := open_sl (E := 35) (α := Mg) (good := Mg.good) u23 c35 y35 t2 w2
  have e2 := List.singleton_inj.1 e2
  subst e2
  obtain ⟨z3, t3⟩ := t3
  have w3 : ∀ n ∈ d3.weights Tryz.prog 22, n ≤ reachBytes := fun n hn => by have := List.all_eq_true.1 hsz0 n (DataW.weights_mem_each (j := 3) rfl rfl n hn); simpa using this
  have o3 : Value.okWide Tryz.prog W .any base 22 v3 := hval0 3 _ v3 rfl rfl
  rw [okWide_slv u22 o3] at t3
  haveI := opc_kv f31 c31 c24 u24 u5 c5 y5
  obtain ⟨a3, c3, p3, e3, g3⟩ := open_sl (E := 31) (α := KV) (good := (fun w (y : KV) => (By w y.ka y.kc y.k ∧ By w y.va y.vc y.v) ∧ y.k.length ≤ Rb ∧ y.v.length ≤ Rb)) u22 c31 y31 t3 w3
  have e3 := List.singleton_inj.1 e3
  subst e3
  refine Calls.mono (FnV.start (lmeans_s (xs := p0) (ys := p1) (ts := p2) (es := p3) (gsl_ms g0) (gsl_ms g1) (gsl_ms g2) g3.sl.r0 (fun e he => ⟨(g3.el e he).1.1.r0, (g3.el e he).1.2.r0⟩) (gsl_len g0) (gsl_len g1) (gsl_len g2) (fun e he => by have := (g3.el e he).2; simp only [Rb] at this; omega))) fun e W' ⟨v, he, hv, hE⟩ => ?_
  subst he
  subst hv
  have hBl : Below W.heap.size W W' := hE.below (Nat.le_refl _) (fun _ _ h => h)
  exact ⟨_, rfl, post_true (by kernel_rfl) rfl rfl (tb := 4) (by kernel_rfl) (by kernel_rfl) rfl rfl rfl hW' hBl⟩
theorem msgMeans_holds : Rows.MsgMeansSaid :=
  OpenClaim.holds_of_wide 4 Tryz.f4 rfl rfl rfl rfl rfl rfl rfl ⟨rfl, rfl, rfl, rfl, rfl⟩ rfl rfl rfl rfl rfl (by kernel_rfl) Tryz.func4 (by kernel_rfl)
    (of_decide_eq_true (by kernel_rfl)) (by unfold Func.isWrapper; rw [if_neg (of_decide_eq_false (by kernel_rfl))]; exact ⟨rfl, rfl⟩)
    (fun os started H enc _ => msgMeans_lifted os started H enc)
end Go.Proofs.YtimakbpghggdfaaGreat
