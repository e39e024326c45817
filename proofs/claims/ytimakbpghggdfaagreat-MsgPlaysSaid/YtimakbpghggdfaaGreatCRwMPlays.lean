/- The given statement MsgPlaysSaid: for every input the law returns true, and the arguments read as they did. -/
import Derived.Test.YtimakbpghggdfaaGreatCRIj
import Derived.Test.YtimakbpghggdfaaGreatCKB
import Derived.Test.YtimakbpghggdfaaGreatRows
namespace Go.Proofs.YtimakbpghggdfaaGreat
open Go.ChangeShapes Go.WideShapes Go.ChangeAt Go.RowKit Go.Sx
theorem own' : ownKnob Tryz.prog.godebug = none := by kernel_rfl
set_option maxRecDepth 100000 in
set_option maxHeartbeats 2000000 in
theorem msgPlays_lifted (os : Os) (started : os.Started) (H : Type) (enc : TypeId × Value → H) :
    ReturnsInHanded {} Tryz.checked os 6 .any (Rows.msgPlaysSpec.pre6 enc Tryz.prog Tryz.f6 Rows.msgPlaysRow.domain false) (Rows.msgPlaysSpec.post enc Tryz.prog Tryz.f6 false true false false) := by
  refine returnsInHanded_of_change_sized (C := Tryz.checked) own' started (by kernel_rfl) Tryz.func6
    (ChangeSpec.witness6 (enc := enc) (C := Tryz.checked) false ⟨#[], #[.slice none 0 0], []⟩ 8 (by kernel_rfl) (by kernel_rfl) (by kernel_rfl) (by kernel_rfl)) ?_
  intro W base args ds gs before hval0 hW hcnd hsz0 hholds
  have hW' := hW
  obtain ⟨p, q, hA0, hV, rfl, hfz, hnd⟩ := hW
  have hA : DataW.TrodAll enc Tryz.prog W 0 (fun _ => true) true [60] args.toList ds p := hA0
  obtain ⟨rfl, rfl⟩ := trodVars_none hV
  have u60 : Tryz.prog.underlying 60 = some (.slice 71) := by kernel_rfl
  have f71 : fieldsOf Tryz.prog 71 = [(3, 0), (3, 1), (22, 2), (23, 3), (24, 4), (53, 5)] := by kernel_rfl
  have c71 : Tryz.prog.cellsOf 71 = 8 := by kernel_rfl
  have f31 : fieldsOf Tryz.prog 31 = [(24, 0), (24, 1)] := by kernel_rfl
  have c31 : Tryz.prog.cellsOf 31 = 2 := by kernel_rfl
  have u24 : Tryz.prog.underlying 24 = some (.slice 5) := by kernel_rfl
  have u5 : Tryz.prog.underlying 5 = some (.int .u8) := by kernel_rfl
  have c5 : Tryz.prog.cellsOf 5 = 1 := by kernel_rfl
  have y5 : Tryz.prog.bytesOf 5 = 1 := by kernel_rfl
  have c24 : Tryz.prog.cellsOf 24 = 1 := by kernel_rfl
  have f35 : fieldsOf Tryz.prog 35 = [(32, 0), (33, 1), (24, 2), (24, 3), (24, 4)] := by kernel_rfl
  have c35 : Tryz.prog.cellsOf 35 = 5 := by kernel_rfl
  have c32 : Tryz.prog.cellsOf 32 = 1 := by kernel_rfl
  have c33 : Tryz.prog.cellsOf 33 = 1 := by kernel_rfl
  have u32 : Tryz.prog.underlying 32 = some (.int .u64) := by kernel_rfl
  have u33 : Tryz.prog.underlying 33 = some (.int .i64) := by kernel_rfl
  have f53 : fieldsOf Tryz.prog 53 = [(24, 0), (24, 1), (4, 2)] := by kernel_rfl
  have c53 : Tryz.prog.cellsOf 53 = 3 := by kernel_rfl
  have u4 : Tryz.prog.underlying 4 = some .bool := by kernel_rfl
  have c4 : Tryz.prog.cellsOf 4 = 1 := by kernel_rfl
  have u3 : Tryz.prog.underlying 3 = some (.int .i64) := by kernel_rfl
  have c3 : Tryz.prog.cellsOf 3 = 1 := by kernel_rfl
  have u22 : Tryz.prog.underlying 22 = some (.slice 31) := by kernel_rfl
  have c22 : Tryz.prog.cellsOf 22 = 1 := by kernel_rfl
  have y31 : Tryz.prog.bytesOf 31 = 48 := by kernel_rfl
  have u23 : Tryz.prog.underlying 23 = some (.slice 35) := by kernel_rfl
  have c23 : Tryz.prog.cellsOf 23 = 1 := by kernel_rfl
  have y35 : Tryz.prog.bytesOf 35 = 88 := by kernel_rfl
  have y71 : Tryz.prog.bytesOf 71 = 144 := by kernel_rfl
  obtain ⟨v0, l1, d0, s1, q0, r1, k1, m1, n1, t0, hA1⟩ := trodAll_cons hA
  obtain ⟨k2, m2, n2⟩ := trodAll_nil hA1
  subst k2; subst m2
  obtain ⟨L⟩ := args
  have k1 : L = [v0] := k1
  subst k1; subst m1
  obtain ⟨z0, t0⟩ := t0
  have w0 : ∀ n ∈ d0.weights Tryz.prog 60, n ≤ reachBytes := fun n hn => by have := List.all_eq_true.1 hsz0 n (DataW.weights_mem_each (j := 0) rfl rfl n hn); simpa using this
  have o0 : Value.okWide Tryz.prog W .any base 60 v0 := hval0 0 _ v0 rfl rfl
  rw [okWide_slv u60 o0] at t0
  haveI := opc_mop f71 c71 c3 c22 c23 c24 c53 u3 u22 c31 y31 u23 c35 y35 u24 u5 c5 y5 (opc_kv f31 c31 c24 u24 u5 c5 y5) (opc_mg f35 c35 c32 c33 c24 u32 u33 u24 u5 c5 y5) (opc_rg f53 c53 c24 c4 u24 u5 c5 y5 u4)
  obtain ⟨a0, cq0, p0, e0, g0⟩ := open_sl (E := 71) (α := MOp) (good := MOp.good) u60 c71 y71 t0 w0
  have e0 := List.singleton_inj.1 e0
  subst e0
  refine Calls.mono (FnV.start (mplays_s (ss := p0) g0.sl.r0 (fun o ho => (g0.el o ho).r0) (fun o ho => (g0.el o ho).lim) (by have := g0.sz; simp only [Rb] at this; omega))) fun e W' ⟨v, he, hv, hE⟩ => ?_
  subst he
  subst hv
  have hBl : Below W.heap.size W W' := hE.below (Nat.le_refl _) (fun _ _ h => h)
  exact ⟨_, rfl, post_true (by kernel_rfl) rfl rfl (tb := 4) (by kernel_rfl) (by kernel_rfl) rfl rfl rfl hW' hBl⟩
theorem msgPlays_holds : Rows.MsgPlaysSaid :=
  OpenClaim.holds_of_wide 6 Tryz.f6 rfl rfl rfl rfl rfl rfl rfl ⟨rfl, rfl, rfl, rfl, rfl⟩ rfl rfl rfl rfl rfl (by kernel_rfl) Tryz.func6 (by kernel_rfl)
    (of_decide_eq_true (by kernel_rfl)) (by unfold Func.isWrapper; rw [if_neg (of_decide_eq_false (by kernel_rfl))]; exact ⟨rfl, rfl⟩)
    (fun os started H enc _ => msgPlays_lifted os started H enc)
end Go.Proofs.YtimakbpghggdfaaGreat

