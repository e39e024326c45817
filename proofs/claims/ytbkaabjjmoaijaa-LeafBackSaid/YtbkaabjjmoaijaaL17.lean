/- Part of a proof: the row LeafBack, joined. -/
import Derived.Test.YtbkaabjjmoaijaaL16
import Derived.Test.YtbkaabjjmoaijaaSxJ
import Derived.Test.YtbkaabjjmoaijaaRows
namespace Go.Proofs.Ytbkaabjjmoaijaa
open Go.ChangeShapes Go.WideShapes Go.ChangeAt Go.RowKit Go.Sx

theorem own' : ownKnob Try.prog.godebug = none := by kernel_rfl

theorem cons_of {α : Type} {l : List α} {n : Nat} (h : l.length = n + 1) : ∃ a r, l = a :: r ∧ r.length = n := by
  cases l with
  | nil => simp at h
  | cons a r => exact ⟨a, r, rfl, by simpa using h⟩
theorem list11 {α : Type} (l : List α) (h : l.length = 11) : ∃ c0 c1 c2 c3 c4 c5 c6 c7 c8 c9 c10, l = [c0, c1, c2, c3, c4, c5, c6, c7, c8, c9, c10] := by
  obtain ⟨c0, l0, e0, h0⟩ := cons_of h
  obtain ⟨c1, l1, e1, h1⟩ := cons_of h0
  obtain ⟨c2, l2, e2, h2⟩ := cons_of h1
  obtain ⟨c3, l3, e3, h3⟩ := cons_of h2
  obtain ⟨c4, l4, e4, h4⟩ := cons_of h3
  obtain ⟨c5, l5, e5, h5⟩ := cons_of h4
  obtain ⟨c6, l6, e6, h6⟩ := cons_of h5
  obtain ⟨c7, l7, e7, h7⟩ := cons_of h6
  obtain ⟨c8, l8, e8, h8⟩ := cons_of h7
  obtain ⟨c9, l9, e9, h9⟩ := cons_of h8
  obtain ⟨c10, l10, e10, h10⟩ := cons_of h9
  have e11 := List.eq_nil_of_length_eq_zero h10
  subst e11
  subst e10
  subst e9
  subst e8
  subst e7
  subst e6
  subst e5
  subst e4
  subst e3
  subst e2
  subst e1
  subst e0
  exact ⟨c0, c1, c2, c3, c4, c5, c6, c7, c8, c9, c10, rfl⟩

set_option maxRecDepth 100000 in
set_option maxHeartbeats 1000000 in
theorem leafBack_lifted (os : Os) (started : os.Started) (H : Type) (enc : TypeId × Value → H) :
    ReturnsInHanded {} Try.checked os 6 .any (Rows.leafBackSpec.pre6 enc Try.prog Try.f6 Rows.leafBackRow.domain false) (Rows.leafBackSpec.post enc Try.prog Try.f6 false true false false) := by
  refine returnsInHanded_of_change_sized (C := Try.checked) own' started (by kernel_rfl) Try.func6
    (ChangeSpec.witness6 (enc := enc) (C := Try.checked) false ⟨#[], #[.agg #[.int .i64 0, .int .i64 0, .slice none 0 0, .slice none 0 0, .slice none 0 0, .slice none 0 0, .slice none 0 0, .bool false, .slice none 0 0, .slice none 0 0, .slice none 0 0]], []⟩ 8 (by kernel_rfl) (by kernel_rfl) (by kernel_rfl) (by kernel_rfl)) ?_
  intro W base args ds gs before hval0 hW hcnd hsz0 hholds
  have hW' := hW
  obtain ⟨p, q, hA0, hV, rfl, hfz, hnd⟩ := hW
  have hA : DataW.TrodAll enc Try.prog W 0 (fun _ => true) true [51] args.toList ds p := hA0
  obtain ⟨rfl, rfl⟩ := trodVars_none hV
  obtain ⟨v, d, rfl, rfl, hd⟩ := trodAll_one hA
  have hv : Value.okWide Try.prog W .any base 51 v := hval0 0 _ v rfl rfl
  have hF : fieldsOf Try.prog 51 = [(3, 0), (3, 1), (25, 2), (47, 3), (49, 5), (39, 8), (39, 9), (39, 10)] := by kernel_rfl
  have hFe : fieldsOf Try.prog 47 = [(39, 0), (39, 1)] := by kernel_rfl
  have u8 : Try.prog.underlying 5 = some (.int .u8) := by kernel_rfl
  have uB : Try.prog.underlying 39 = some (.slice 5) := by kernel_rfl
  have uE : Try.prog.underlying 25 = some (.slice 47) := by kernel_rfl
  have uI : Try.prog.underlying 3 = some (.int .i64) := by kernel_rfl
  have c8 : Try.prog.cellsOf 5 = 1 := by kernel_rfl
  have cB : Try.prog.cellsOf 39 = 1 := by kernel_rfl
  have cE : Try.prog.cellsOf 47 = 2 := by kernel_rfl
  have cL : Try.prog.cellsOf 25 = 1 := by kernel_rfl
  have cI : Try.prog.cellsOf 3 = 1 := by kernel_rfl
  have cA : Try.prog.cellsOf 51 = 11 := by kernel_rfl
  have y8 : Try.prog.bytesOf 5 = 1 := by kernel_rfl
  have yE : Try.prog.bytesOf 47 = 48 := by kernel_rfl
  obtain ⟨fs, hfs, _⟩ := fieldsOf_struct hF (by simp)
  obtain ⟨cs, rfl, _⟩ := okWide_struct hfs hv
  obtain ⟨fuel, hf⟩ := hd
  have hsz : ∀ n ∈ d.weights Try.prog 51, n ≤ reachBytes := fun n hn => by
    have := List.all_eq_true.1 hsz0 n (DataW.weights_mem_each (j := 0) rfl rfl n hn)
    simpa using this
  obtain ⟨l⟩ := cs
  obtain ⟨hl, n, hfl⟩ := trod_fields hF (by simp) hf
  rw [cA] at hl
  obtain ⟨c0, c1, c2, c3, c4, c5, c6, c7, c8', c9, c10, rfl⟩ := list11 _ hl
  obtain ⟨y0, t0, _⟩ := hfl 0 _ _ rfl
  obtain ⟨y1, t1, _⟩ := hfl 1 _ _ rfl
  obtain ⟨y2, t2, g2⟩ := hfl 2 _ _ rfl
  obtain ⟨y5, t5, g5⟩ := hfl 5 _ _ rfl
  obtain ⟨y6, t6, g6⟩ := hfl 6 _ _ rfl
  rw [cI] at t0 t1
  rw [cL] at t2
  rw [cB] at t5 t6
  obtain ⟨z0, e0, b0⟩ := open_i64 uI t0
  obtain ⟨z1, e1, b1⟩ := open_i64 uI t1
  obtain ⟨f0, f1, hs, o0, o1, ft0, ft1⟩ := kv_fields hFe
  obtain ⟨la, lc, es, e2, hEn, _, hz⟩ := open_ens uE hs o0 o1 ft0 ft1 cE cB uB u8 c8 y8 yE t2 (fun m hm => hsz m (g2 m hm))
  obtain ⟨ba, bc, bs, e5, hB, _⟩ := open_bys uB u8 c8 y8 t5 (fun m hm => hsz m (g5 m hm))
  obtain ⟨ma, mc, ms, e6, hM, hmz⟩ := open_bys uB u8 c8 y8 t6 (fun m hm => hsz m (g6 m hm))
  simp [Value.cells] at e0 e1 e2 e5 e6
  subst e0
  subst e1
  subst e2
  subst e5
  subst e6
  refine Calls.mono (back_go W z0 z1 b0 b1 la ba ma lc bc mc es bs ms c3 c4 c5 c6 c7 c10 hEn hB hM hz hmz) fun e W' ⟨v, he, hv, hE⟩ => ?_
  subst he
  subst hv
  have hBl : Below W.heap.size W W' := hE.below (Nat.le_refl _) (fun _ _ h => h)
  exact ⟨_, rfl, post_true (by kernel_rfl) rfl rfl (tb := 4) (by kernel_rfl) (by kernel_rfl) rfl rfl rfl hW' hBl⟩

theorem leafBack_holds : Rows.LeafBackSaid :=
  OpenClaim.holds_of_wide 6 Try.f6 rfl rfl rfl rfl rfl rfl rfl ⟨rfl, rfl, rfl, rfl, rfl⟩ rfl rfl rfl rfl rfl (by kernel_rfl) Try.func6 (by kernel_rfl)
    (of_decide_eq_true (by kernel_rfl)) (by unfold Func.isWrapper; rw [if_neg (of_decide_eq_false (by kernel_rfl))]; exact ⟨rfl, rfl⟩)
    (fun os started H enc _ => leafBack_lifted os started H enc)
end Go.Proofs.Ytbkaabjjmoaijaa
