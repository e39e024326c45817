/- The given statement MergeWithSaid: for every input the law returns true, and the arguments read as they did. -/
import Derived.Test.YtpnhoafmlhlfgaaGreatCPJ
import Derived.Test.YtpnhoafmlhlfgaaGreatCR8j
import Derived.Test.YtpnhoafmlhlfgaaGreatCKB
import Derived.Test.YtpnhoafmlhlfgaaGreatRows
namespace Go.Proofs.YtpnhoafmlhlfgaaGreat
open Go.ChangeShapes Go.WideShapes Go.ChangeAt Go.RowKit Go.Sx
theorem own' : ownKnob Tryz.prog.godebug = none := by kernel_rfl
theorem cons_of {α : Type} {l : List α} {n : Nat} (h : l.length = n + 1) : ∃ a r, l = a :: r ∧ r.length = n := by
  cases l with
  | nil => simp at h
  | cons a r => exact ⟨a, r, rfl, by simpa using h⟩
set_option maxRecDepth 100000 in
set_option maxHeartbeats 2000000 in
theorem mergeWith_lifted (os : Os) (started : os.Started) (H : Type) (enc : TypeId × Value → H) :
    ReturnsInHanded {} Tryz.checked os 4 .any (Rows.mergeWithSpec.pre6 enc Tryz.prog Tryz.f4 Rows.mergeWithRow.domain false) (Rows.mergeWithSpec.post enc Tryz.prog Tryz.f4 false true false false) := by
  refine returnsInHanded_of_change_sized (C := Tryz.checked) own' started (by kernel_rfl) Tryz.func4
    (ChangeSpec.witness6 (enc := enc) (C := Tryz.checked) false ⟨#[], #[.slice none 0 0, .slice none 0 0, .slice none 0 0, .agg #[.slice none 0 0, .slice none 0 0, .bool false]], []⟩ 8 (by kernel_rfl) (by kernel_rfl) (by kernel_rfl) (by kernel_rfl)) ?_
  intro W base args ds gs before hval0 hW hcnd hsz0 hholds
  have hW' := hW
  obtain ⟨p, q, hA0, hV, rfl, hfz, hnd⟩ := hW
  have hA : DataW.TrodAll enc Tryz.prog W 0 (fun _ => true) true [22, 55, 55, 57] args.toList ds p := hA0
  obtain ⟨rfl, rfl⟩ := trodVars_none hV
  have u22 : Tryz.prog.underlying 22 = some (.slice 51) := by kernel_rfl
  have f51 : fieldsOf Tryz.prog 51 = [(49, 0), (49, 1)] := by kernel_rfl
  have c51 : Tryz.prog.cellsOf 51 = 2 := by kernel_rfl
  have u49 : Tryz.prog.underlying 49 = some (.slice 5) := by kernel_rfl
  have u5 : Tryz.prog.underlying 5 = some (.int .u8) := by kernel_rfl
  have c5 : Tryz.prog.cellsOf 5 = 1 := by kernel_rfl
  have y5 : Tryz.prog.bytesOf 5 = 1 := by kernel_rfl
  have c49 : Tryz.prog.cellsOf 49 = 1 := by kernel_rfl
  have y51 : Tryz.prog.bytesOf 51 = 48 := by kernel_rfl
  have u55 : Tryz.prog.underlying 55 = some (.slice 71) := by kernel_rfl
  have f71 : fieldsOf Tryz.prog 71 = [(69, 0), (68, 1), (49, 2), (49, 3), (49, 4)] := by kernel_rfl
  have c71 : Tryz.prog.cellsOf 71 = 5 := by kernel_rfl
  have c69 : Tryz.prog.cellsOf 69 = 1 := by kernel_rfl
  have c68 : Tryz.prog.cellsOf 68 = 1 := by kernel_rfl
  have u69 : Tryz.prog.underlying 69 = some (.int .u64) := by kernel_rfl
  have u68 : Tryz.prog.underlying 68 = some (.int .i64) := by kernel_rfl
  have y71 : Tryz.prog.bytesOf 71 = 88 := by kernel_rfl
  have f57 : fieldsOf Tryz.prog 57 = [(49, 0), (49, 1), (4, 2)] := by kernel_rfl
  have c57 : Tryz.prog.cellsOf 57 = 3 := by kernel_rfl
  have u4 : Tryz.prog.underlying 4 = some .bool := by kernel_rfl
  have c4 : Tryz.prog.cellsOf 4 = 1 := by kernel_rfl
  obtain ⟨v0, l1, d0, s1, q0, r1, k1, m1, n1, t0, hA1⟩ := trodAll_cons hA
  obtain ⟨v1, l2, d1, s2, q1, r2, k2, m2, n2, t1, hA2⟩ := trodAll_cons hA1
  obtain ⟨v2, l3, d2, s3, q2, r3, k3, m3, n3, t2, hA3⟩ := trodAll_cons hA2
  obtain ⟨v3, l4, d3, s4, q3, r4, k4, m4, n4, t3, hA4⟩ := trodAll_cons hA3
  obtain ⟨k5, m5, n5⟩ := trodAll_nil hA4
  subst k5; subst m5
  subst k4; subst m4
  subst k3; subst m3
  subst k2; subst m2
  obtain ⟨L⟩ := args
  have k1 : L = [v0, v1, v2, v3] := k1
  subst k1; subst m1
  obtain ⟨z0, t0⟩ := t0
  have w0 : ∀ n ∈ d0.weights Tryz.prog 22, n ≤ reachBytes := fun n hn => by have := List.all_eq_true.1 hsz0 n (DataW.weights_mem_each (j := 0) rfl rfl n hn); simpa using this
  have o0 : Value.okWide Tryz.prog W .any base 22 v0 := hval0 0 _ v0 rfl rfl
  rw [okWide_slv u22 o0] at t0
  haveI := opc_kv f51 c51 c49 u49 u5 c5 y5
  obtain ⟨a0, cq0, p0, e0, g0⟩ := open_sl (E := 51) (α := KV) (good := (fun w (y : KV) => (By w y.ka y.kc y.k ∧ By w y.va y.vc y.v) ∧ y.k.length ≤ Rb ∧ y.v.length ≤ Rb)) u22 c51 y51 t0 w0
  have e0 := List.singleton_inj.1 e0
  subst e0
  obtain ⟨z1, t1⟩ := t1
  have w1 : ∀ n ∈ d1.weights Tryz.prog 55, n ≤ reachBytes := fun n hn => by have := List.all_eq_true.1 hsz0 n (DataW.weights_mem_each (j := 1) rfl rfl n hn); simpa using this
  have o1 : Value.okWide Tryz.prog W .any base 55 v1 := hval0 1 _ v1 rfl rfl
  rw [okWide_slv u55 o1] at t1
  haveI := opc_mg f71 c71 c69 c68 c49 u69 u68 u49 u5 c5 y5
  obtain ⟨a1, cq1, p1, e1, g1⟩ := open_sl (E := 71) (α := Mg) (good := Mg.good) u55 c71 y71 t1 w1
  have e1 := List.singleton_inj.1 e1
  subst e1
  obtain ⟨z2, t2⟩ := t2
  have w2 : ∀ n ∈ d2.weights Tryz.prog 55, n ≤ reachBytes := fun n hn => by have := List.all_eq_true.1 hsz0 n (DataW.weights_mem_each (j := 2) rfl rfl n hn); simpa using this
  have o2 : Value.okWide Tryz.prog W .any base 55 v2 := hval0 2 _ v2 rfl rfl
  rw [okWide_slv u55 o2] at t2
  haveI := opc_mg f71 c71 c69 c68 c49 u69 u68 u49 u5 c5 y5
  obtain ⟨a2, cq2, p2, e2, g2⟩ := open_sl (E := 71) (α := Mg) (good := Mg.good) u55 c71 y71 t2 w2
  have e2 := List.singleton_inj.1 e2
  subst e2
  obtain ⟨z3, t3⟩ := t3
  have w3 : ∀ n ∈ d3.weights Tryz.prog 57, n ≤ reachBytes := fun n hn => by have := List.all_eq_true.1 hsz0 n (DataW.weights_mem_each (j := 3) rfl rfl n hn); simpa using this
  have o3 : Value.okWide Tryz.prog W .any base 57 v3 := hval0 3 _ v3 rfl rfl
  obtain ⟨cs3, x3, yc3⟩ := okWide_fields f57 (by simp) o3
  subst x3
  rw [yc3] at t3
  obtain ⟨p3, e3, g3⟩ := (opc_rg f57 c57 c49 c4 u49 u5 c5 y5 u4).opens t3 w3
  subst e3
  refine Calls.mono (FnV.start (gwith_s (es := p0) (ms := p1) (ns := p2) (r := p3) g0.sl.r0 (fun e he => ⟨(g0.el e he).1.1.r0, (g0.el e he).1.2.r0⟩) (gsl_ms g1) (gsl_ms g2) ⟨g3.1.1.r0, g3.1.2.r0⟩ (fun e he => by have := (g0.el e he).2; simp only [Rb] at this; omega) (gsl_len8 g1) (gsl_len8 g2) (by have := g3.2; simp only [Rb] at this; omega))) fun e W' ⟨v, he, hv, hE⟩ => ?_
  subst he
  subst hv
  have hBl : Below W.heap.size W W' := hE.below (Nat.le_refl _) (fun _ _ h => h)
  exact ⟨_, rfl, post_true (by kernel_rfl) rfl rfl (tb := 4) (by kernel_rfl) (by kernel_rfl) rfl rfl rfl hW' hBl⟩
theorem mergeWith_holds : Rows.MergeWithSaid :=
  OpenClaim.holds_of_wide 4 Tryz.f4 rfl rfl rfl rfl rfl rfl rfl ⟨rfl, rfl, rfl, rfl, rfl⟩ rfl rfl rfl rfl rfl (by kernel_rfl) Tryz.func4 (by kernel_rfl)
    (of_decide_eq_true (by kernel_rfl)) (by unfold Func.isWrapper; rw [if_neg (of_decide_eq_false (by kernel_rfl))]; exact ⟨rfl, rfl⟩)
    (fun os started H enc _ => mergeWith_lifted os started H enc)
end Go.Proofs.YtpnhoafmlhlfgaaGreat
