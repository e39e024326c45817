/- The given statement MergePlaysSaid: for every input the law returns true, and the arguments read as they did. -/
import Derived.Test.YtpnhoafmlhlfgaaGreatCRC
import Derived.Test.YtpnhoafmlhlfgaaGreatCRBj
import Derived.Test.YtpnhoafmlhlfgaaGreatCKB
import Derived.Test.YtpnhoafmlhlfgaaGreatRows
namespace Go.Proofs.YtpnhoafmlhlfgaaGreat
open Go.ChangeShapes Go.WideShapes Go.ChangeAt Go.RowKit Go.Sx
theorem own' : ownKnob Tryz.prog.godebug = none := by kernel_rfl
set_option maxRecDepth 100000 in
set_option maxHeartbeats 2000000 in
theorem mergePlays_lifted (os : Os) (started : os.Started) (H : Type) (enc : TypeId × Value → H) :
    ReturnsInHanded {} Tryz.checked os 3 .any (Rows.mergePlaysSpec.pre6 enc Tryz.prog Tryz.f3 Rows.mergePlaysRow.domain false) (Rows.mergePlaysSpec.post enc Tryz.prog Tryz.f3 false true false false) := by
  refine returnsInHanded_of_change_sized (C := Tryz.checked) own' started (by kernel_rfl) Tryz.func3
    (ChangeSpec.witness6 (enc := enc) (C := Tryz.checked) false ⟨#[], #[.slice none 0 0, .slice none 0 0, .int .i64 0, .int .i64 0], []⟩ 8 (by kernel_rfl) (by kernel_rfl) (by kernel_rfl) (by kernel_rfl)) ?_
  intro W base args ds gs before hval0 hW hcnd hsz0 hholds
  have hW' := hW
  obtain ⟨p, q, hA0, hV, rfl, hfz, hnd⟩ := hW
  have hA : DataW.TrodAll enc Tryz.prog W 0 (fun _ => true) true [22, 23, 3, 3] args.toList ds p := hA0
  obtain ⟨rfl, rfl⟩ := trodVars_none hV
  have u22 : Tryz.prog.underlying 22 = some (.slice 51) := by kernel_rfl
  have f51 : fieldsOf Tryz.prog 51 = [(49, 0), (49, 1)] := by kernel_rfl
  have c51 : Tryz.prog.cellsOf 51 = 2 := by kernel_rfl
  have u49 : Tryz.prog.underlying 49 = some (.slice 5) := by kernel_rfl
  have u5 : Tryz.prog.underlying 5 = some (.int .u8) := by kernel_rfl
  have c5 : Tryz.prog.cellsOf 5 = 1 := by kernel_rfl
  have y5 : Tryz.prog.bytesOf 5 = 1 := by kernel_rfl
  have c49 : Tryz.prog.cellsOf 49 = 1 := by kernel_rfl
  have y51 : Tryz.prog.bytesOf 51 = 48 := by kernel_rfl
  have u23 : Tryz.prog.underlying 23 = some (.slice 74) := by kernel_rfl
  have f74 : fieldsOf Tryz.prog 74 = [(3, 0), (22, 1), (55, 2), (57, 3)] := by kernel_rfl
  have c74 : Tryz.prog.cellsOf 74 = 6 := by kernel_rfl
  have f71 : fieldsOf Tryz.prog 71 = [(69, 0), (68, 1), (49, 2), (49, 3), (49, 4)] := by kernel_rfl
  have c71 : Tryz.prog.cellsOf 71 = 5 := by kernel_rfl
  have c69 : Tryz.prog.cellsOf 69 = 1 := by kernel_rfl
  have c68 : Tryz.prog.cellsOf 68 = 1 := by kernel_rfl
  have u69 : Tryz.prog.underlying 69 = some (.int .u64) := by kernel_rfl
  have u68 : Tryz.prog.underlying 68 = some (.int .i64) := by kernel_rfl
  have f57 : fieldsOf Tryz.prog 57 = [(49, 0), (49, 1), (4, 2)] := by kernel_rfl
  have c57 : Tryz.prog.cellsOf 57 = 3 := by kernel_rfl
  have u4 : Tryz.prog.underlying 4 = some .bool := by kernel_rfl
  have c4 : Tryz.prog.cellsOf 4 = 1 := by kernel_rfl
  have u3 : Tryz.prog.underlying 3 = some (.int .i64) := by kernel_rfl
  have c3 : Tryz.prog.cellsOf 3 = 1 := by kernel_rfl
  have c22 : Tryz.prog.cellsOf 22 = 1 := by kernel_rfl
  have u55 : Tryz.prog.underlying 55 = some (.slice 71) := by kernel_rfl
  have c55 : Tryz.prog.cellsOf 55 = 1 := by kernel_rfl
  have y71 : Tryz.prog.bytesOf 71 = 88 := by kernel_rfl
  have y74 : Tryz.prog.bytesOf 74 = 112 := by kernel_rfl
  obtain ⟨v0, l1, d0, s1, q0, r1, k1, m1, n1, t0, hA1⟩ := trodAll_cons hA
  obtain ⟨v1, l2, d1, s2, q1, r2, k2, m2, n2, t1, hA2⟩ := trodAll_cons hA1
  obtain ⟨v2, l3, d2, s3, q2, r3, k3, m3, n3, t2, hA3⟩ := trodAll_cons hA2
  obtain ⟨v3, l4, d3, s4, q3, r4, k4, m4, n4, t3, hA4⟩ := trodAll_cons hA3
  obtain ⟨k5, m5, n5⟩ := trodAll_nil hA4
  subst k5; subst m5
  subst k4; subst m4
  subst k3; subst m3
  subst k2; subst m2
  obtain ⟨L⟩ := args
  have k1 : L = [v0, v1, v2, v3] := k1
  subst k1; subst m1
  obtain ⟨z0, t0⟩ := t0
  have w0 : ∀ n ∈ d0.weights Tryz.prog 22, n ≤ reachBytes := fun n hn => by have := List.all_eq_true.1 hsz0 n (DataW.weights_mem_each (j := 0) rfl rfl n hn); simpa using this
  have o0 : Value.okWide Tryz.prog W .any base 22 v0 := hval0 0 _ v0 rfl rfl
  rw [okWide_slv u22 o0] at t0
  haveI := opc_kv f51 c51 c49 u49 u5 c5 y5
  obtain ⟨a0, cq0, p0, e0, g0⟩ := open_sl (E := 51) (α := KV) (good := (fun w (y : KV) => (By w y.ka y.kc y.k ∧ By w y.va y.vc y.v) ∧ y.k.length ≤ Rb ∧ y.v.length ≤ Rb)) u22 c51 y51 t0 w0
  have e0 := List.singleton_inj.1 e0
  subst e0
  obtain ⟨z1, t1⟩ := t1
  have w1 : ∀ n ∈ d1.weights Tryz.prog 23, n ≤ reachBytes := fun n hn => by have := List.all_eq_true.1 hsz0 n (DataW.weights_mem_each (j := 1) rfl rfl n hn); simpa using this
  have o1 : Value.okWide Tryz.prog W .any base 23 v1 := hval0 1 _ v1 rfl rfl
  rw [okWide_slv u23 o1] at t1
  haveI := opc_stp f74 c74 c3 c22 c55 c57 u3 u22 c51 y51 u55 c71 y71 (opc_kv f51 c51 c49 u49 u5 c5 y5) (opc_mg f71 c71 c69 c68 c49 u69 u68 u49 u5 c5 y5) (opc_rg f57 c57 c49 c4 u49 u5 c5 y5 u4)
  obtain ⟨a1, cq1, p1, e1, g1⟩ := open_sl (E := 74) (α := Stp) (good := Stp.good) u23 c74 y74 t1 w1
  have e1 := List.singleton_inj.1 e1
  subst e1
  obtain ⟨z2, t2⟩ := t2
  have w2 : ∀ n ∈ d2.weights Tryz.prog 3, n ≤ reachBytes := fun n hn => by have := List.all_eq_true.1 hsz0 n (DataW.weights_mem_each (j := 2) rfl rfl n hn); simpa using this
  have o2 : Value.okWide Tryz.prog W .any base 3 v2 := hval0 2 _ v2 rfl rfl
  rw [okWide_intv u3 o2] at t2
  obtain ⟨p2, e2, g2⟩ := (opc_int u3).opens t2 w2
  have e2 := List.singleton_inj.1 e2
  subst e2
  obtain ⟨z3, t3⟩ := t3
  have w3 : ∀ n ∈ d3.weights Tryz.prog 3, n ≤ reachBytes := fun n hn => by have := List.all_eq_true.1 hsz0 n (DataW.weights_mem_each (j := 3) rfl rfl n hn); simpa using this
  have o3 : Value.okWide Tryz.prog W .any base 3 v3 := hval0 3 _ v3 rfl rfl
  rw [okWide_intv u3 o3] at t3
  obtain ⟨p3, e3, g3⟩ := (opc_int u3).opens t3 w3
  have e3 := List.singleton_inj.1 e3
  subst e3
  refine Calls.mono (FnV.start (gplays_s (es := p0) (ss := p1) (most := p2) (inner := p3) g0.sl.r0 (fun e he => ⟨(g0.el e he).1.1.r0, (g0.el e he).1.2.r0⟩) g1.sl.r0 (fun o ho => (g1.el o ho).r0) (fun e he => by have := (g0.el e he).2; simp only [Rb] at this; omega) (by have := g1.sz; simp only [Rb] at this; omega))) fun e W' ⟨v, he, hv, hE⟩ => ?_
  subst he
  subst hv
  have hBl : Below W.heap.size W W' := hE.below (Nat.le_refl _) (fun _ _ h => h)
  exact ⟨_, rfl, post_true (by kernel_rfl) rfl rfl (tb := 4) (by kernel_rfl) (by kernel_rfl) rfl rfl rfl hW' hBl⟩
theorem mergePlays_holds : Rows.MergePlaysSaid :=
  OpenClaim.holds_of_wide 3 Tryz.f3 rfl rfl rfl rfl rfl rfl rfl ⟨rfl, rfl, rfl, rfl, rfl⟩ rfl rfl rfl rfl rfl (by kernel_rfl) Tryz.func3 (by kernel_rfl)
    (of_decide_eq_true (by kernel_rfl)) (by unfold Func.isWrapper; rw [if_neg (of_decide_eq_false (by kernel_rfl))]; exact ⟨rfl, rfl⟩)
    (fun os started H enc _ => mergePlays_lifted os started H enc)
end Go.Proofs.YtpnhoafmlhlfgaaGreat

