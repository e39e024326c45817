/- The given statement MergeAnySaid: for every input the law returns true, and the arguments read as they did. -/
import Derived.Test.YtpnhoafmlhlfgaaCPI
import Derived.Test.YtpnhoafmlhlfgaaCRA
import Derived.Test.YtpnhoafmlhlfgaaCKB
import Derived.Test.YtpnhoafmlhlfgaaRows
namespace Go.Proofs.Ytpnhoafmlhlfgaa
open Go.ChangeShapes Go.WideShapes Go.ChangeAt Go.RowKit Go.Sx
theorem own' : ownKnob Try.prog.godebug = none := by kernel_rfl
theorem cons_of {α : Type} {l : List α} {n : Nat} (h : l.length = n + 1) : ∃ a r, l = a :: r ∧ r.length = n := by
  cases l with
  | nil => simp at h
  | cons a r => exact ⟨a, r, rfl, by simpa using h⟩
set_option maxRecDepth 100000 in
set_option maxHeartbeats 2000000 in
theorem mergeAny_lifted (os : Os) (started : os.Started) (H : Type) (enc : TypeId × Value → H) :
    ReturnsInHanded {} Try.checked os 5 .any (Rows.mergeAnySpec.pre6 enc Try.prog Try.f5 Rows.mergeAnyRow.domain false) (Rows.mergeAnySpec.post enc Try.prog Try.f5 false true false false) := by
  refine returnsInHanded_of_change_sized (C := Try.checked) own' started (by kernel_rfl) Try.func5
    (ChangeSpec.witness6 (enc := enc) (C := Try.checked) false ⟨#[], #[.slice none 0 0, .slice none 0 0, .int .i64 0], []⟩ 8 (by kernel_rfl) (by kernel_rfl) (by kernel_rfl) (by kernel_rfl)) ?_
  intro W base args ds gs before hval0 hW hcnd hsz0 hholds
  have hW' := hW
  obtain ⟨p, q, hA0, hV, rfl, hfz, hnd⟩ := hW
  have hA : DataW.TrodAll enc Try.prog W 0 (fun _ => true) true [26, 26, 3] args.toList ds p := hA0
  obtain ⟨rfl, rfl⟩ := trodVars_none hV
  have u26 : Try.prog.underlying 26 = some (.slice 36) := by kernel_rfl
  have f36 : fieldsOf Try.prog 36 = [(24, 0), (24, 1)] := by kernel_rfl
  have c36 : Try.prog.cellsOf 36 = 2 := by kernel_rfl
  have u24 : Try.prog.underlying 24 = some (.slice 5) := by kernel_rfl
  have u5 : Try.prog.underlying 5 = some (.int .u8) := by kernel_rfl
  have c5 : Try.prog.cellsOf 5 = 1 := by kernel_rfl
  have y5 : Try.prog.bytesOf 5 = 1 := by kernel_rfl
  have c24 : Try.prog.cellsOf 24 = 1 := by kernel_rfl
  have y36 : Try.prog.bytesOf 36 = 48 := by kernel_rfl
  have u3 : Try.prog.underlying 3 = some (.int .i64) := by kernel_rfl
  obtain ⟨v0, l1, d0, s1, q0, r1, k1, m1, n1, t0, hA1⟩ := trodAll_cons hA
  obtain ⟨v1, l2, d1, s2, q1, r2, k2, m2, n2, t1, hA2⟩ := trodAll_cons hA1
  obtain ⟨v2, l3, d2, s3, q2, r3, k3, m3, n3, t2, hA3⟩ := trodAll_cons hA2
  obtain ⟨k4, m4, n4⟩ := trodAll_nil hA3
  subst k4; subst m4
  subst k3; subst m3
  subst k2; subst m2
  obtain ⟨L⟩ := args
  have k1 : L = [v0, v1, v2] := k1
  subst k1; subst m1
  obtain ⟨z0, t0⟩ := t0
  have w0 : ∀ n ∈ d0.weights Try.prog 26, n ≤ reachBytes := fun n hn => by have := List.all_eq_true.1 hsz0 n (DataW.weights_mem_each (j := 0) rfl rfl n hn); simpa using this
  have o0 : Value.okWide Try.prog W .any base 26 v0 := hval0 0 _ v0 rfl rfl
  rw [okWide_slv u26 o0] at t0
  haveI := opc_kv f36 c36 c24 u24 u5 c5 y5
  obtain ⟨a0, cq0, p0, e0, g0⟩ := open_sl (E := 36) (α := KV) (good := (fun w (y : KV) => (By w y.ka y.kc y.k ∧ By w y.va y.vc y.v) ∧ y.k.length ≤ Rb ∧ y.v.length ≤ Rb)) u26 c36 y36 t0 w0
  have e0 := List.singleton_inj.1 e0
  subst e0
  obtain ⟨z1, t1⟩ := t1
  have w1 : ∀ n ∈ d1.weights Try.prog 26, n ≤ reachBytes := fun n hn => by have := List.all_eq_true.1 hsz0 n (DataW.weights_mem_each (j := 1) rfl rfl n hn); simpa using this
  have o1 : Value.okWide Try.prog W .any base 26 v1 := hval0 1 _ v1 rfl rfl
  rw [okWide_slv u26 o1] at t1
  haveI := opc_kv f36 c36 c24 u24 u5 c5 y5
  obtain ⟨a1, cq1, p1, e1, g1⟩ := open_sl (E := 36) (α := KV) (good := (fun w (y : KV) => (By w y.ka y.kc y.k ∧ By w y.va y.vc y.v) ∧ y.k.length ≤ Rb ∧ y.v.length ≤ Rb)) u26 c36 y36 t1 w1
  have e1 := List.singleton_inj.1 e1
  subst e1
  obtain ⟨z2, t2⟩ := t2
  have w2 : ∀ n ∈ d2.weights Try.prog 3, n ≤ reachBytes := fun n hn => by have := List.all_eq_true.1 hsz0 n (DataW.weights_mem_each (j := 2) rfl rfl n hn); simpa using this
  have o2 : Value.okWide Try.prog W .any base 3 v2 := hval0 2 _ v2 rfl rfl
  rw [okWide_intv u3 o2] at t2
  obtain ⟨p2, e2, g2⟩ := (opc_int u3).opens t2 w2
  have e2 := List.singleton_inj.1 e2
  subst e2
  refine Calls.mono (FnV.start (gany_s (ls := p0) (ms := p1) (most := p2) g0.sl.r0 (fun e he => ⟨(g0.el e he).1.1.r0, (g0.el e he).1.2.r0⟩) g1.sl.r0 (fun e he => ⟨(g1.el e he).1.1.r0, (g1.el e he).1.2.r0⟩) (fun e he => by have := (g0.el e he).2; simp only [Rb] at this; omega) (fun e he => by have := (g1.el e he).2; simp only [Rb] at this; omega))) fun e W' ⟨v, he, hv, hE⟩ => ?_
  subst he
  subst hv
  have hBl : Below W.heap.size W W' := hE.below (Nat.le_refl _) (fun _ _ h => h)
  exact ⟨_, rfl, post_true (by kernel_rfl) rfl rfl (tb := 4) (by kernel_rfl) (by kernel_rfl) rfl rfl rfl hW' hBl⟩
theorem mergeAny_holds : Rows.MergeAnySaid :=
  OpenClaim.holds_of_wide 5 Try.f5 rfl rfl rfl rfl rfl rfl rfl ⟨rfl, rfl, rfl, rfl, rfl⟩ rfl rfl rfl rfl rfl (by kernel_rfl) Try.func5 (by kernel_rfl)
    (of_decide_eq_true (by kernel_rfl)) (by unfold Func.isWrapper; rw [if_neg (of_decide_eq_false (by kernel_rfl))]; exact ⟨rfl, rfl⟩)
    (fun os started H enc _ => mergeAny_lifted os started H enc)
end Go.Proofs.Ytpnhoafmlhlfgaa
