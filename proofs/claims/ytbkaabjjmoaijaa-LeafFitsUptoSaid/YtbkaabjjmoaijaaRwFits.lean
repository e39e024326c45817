/- The given statement LeafFitsUptoSaid: for every input of bulk at most 1048576 the law returns true, and the arguments read as they did. -/
import Derived.Deep.CondSized
import Derived.OpenShut
import Derived.JoinedCond
import Derived.Test.YtbkaabjjmoaijaaN2
import Derived.Test.YtbkaabjjmoaijaaR1
import Derived.Test.YtbkaabjjmoaijaaSyJ
import Derived.Test.YtbkaabjjmoaijaaRows
namespace Go.Proofs.Ytbkaabjjmoaijaa
open Go.ChangeShapes Go.WideShapes Go.ChangeAt Go.RowKit Go.Sx
theorem own' : ownKnob Try.prog.godebug = none := by kernel_rfl
theorem cons_of {α : Type} {l : List α} {n : Nat} (h : l.length = n + 1) : ∃ a r, l = a :: r ∧ r.length = n := by
  cases l with
  | nil => simp at h
  | cons a r => exact ⟨a, r, rfl, by simpa using h⟩
set_option maxRecDepth 100000 in
set_option maxHeartbeats 2000000 in
theorem leafFits_lifted (os : Os) (started : os.Started) (H : Type) (enc : TypeId × Value → H) (F : Stop.Interp) :
    ReturnsInHanded {} Try.checked os 11 .any ((Rows.OpenSpec.upto Rows.leafFitsSpec).pre6 enc Try.prog Try.f11 Rows.leafFitsUptoRow.domain false) (((Rows.OpenSpec.upto Rows.leafFitsSpec).at F).post enc Try.prog Try.f11 false true false false) := by
  refine returnsInHanded_of_cond_sized (C := Try.checked) (s := (Rows.OpenSpec.upto Rows.leafFitsSpec)) (k := Rows.uptoSmall) rfl own' started (by kernel_rfl) Try.func11
    (OpenSpec.witness (enc := enc) (C := Try.checked) (s := (Rows.OpenSpec.upto Rows.leafFitsSpec)) (k := Rows.uptoSmall) rfl false ⟨#[], #[.agg #[.int .i64 0, .int .i64 0, .slice none 0 0, .slice none 0 0, .slice none 0 0, .slice none 0 0, .slice none 0 0, .bool false, .slice none 0 0, .slice none 0 0, .slice none 0 0]], []⟩ 8 (by kernel_rfl) (by kernel_rfl) (by kernel_rfl) (x := ([.agg [.lit (.int .i64 0), .lit (.int .i64 0), .nil, .agg [.nil, .nil], .agg [.nil, .nil, .lit (.bool false)], .nil, .nil, .nil]], [], [])) (by kernel_rfl) rfl (by kernel_rfl)) ?_
  intro W base args ds gs before hval0 hW hcnd hk hsz0 hholds
  have hW' := hW
  obtain ⟨p, q, hA0, hV, rfl, hfz, hnd⟩ := hW
  have hA : DataW.TrodAll enc Try.prog W 0 (fun _ => true) true [51] args.toList ds p := hA0
  obtain ⟨rfl, rfl⟩ := trodVars_none hV
  have f51 : fieldsOf Try.prog 51 = [(3, 0), (3, 1), (25, 2), (47, 3), (49, 5), (39, 8), (39, 9), (39, 10)] := by kernel_rfl
  have c51 : Try.prog.cellsOf 51 = 11 := by kernel_rfl
  have c3 : Try.prog.cellsOf 3 = 1 := by kernel_rfl
  have u3 : Try.prog.underlying 3 = some (.int .i64) := by kernel_rfl
  have c25 : Try.prog.cellsOf 25 = 1 := by kernel_rfl
  have f47 : fieldsOf Try.prog 47 = [(39, 0), (39, 1)] := by kernel_rfl
  have c47 : Try.prog.cellsOf 47 = 2 := by kernel_rfl
  have u39 : Try.prog.underlying 39 = some (.slice 5) := by kernel_rfl
  have u5 : Try.prog.underlying 5 = some (.int .u8) := by kernel_rfl
  have c5 : Try.prog.cellsOf 5 = 1 := by kernel_rfl
  have y5 : Try.prog.bytesOf 5 = 1 := by kernel_rfl
  have c39 : Try.prog.cellsOf 39 = 1 := by kernel_rfl
  have u25 : Try.prog.underlying 25 = some (.slice 47) := by kernel_rfl
  have y47 : Try.prog.bytesOf 47 = 48 := by kernel_rfl
  have c49 : Try.prog.cellsOf 49 = 3 := by kernel_rfl
  have f49 : fieldsOf Try.prog 49 = [(39, 0), (39, 1), (4, 2)] := by kernel_rfl
  have u4 : Try.prog.underlying 4 = some .bool := by kernel_rfl
  have c4 : Try.prog.cellsOf 4 = 1 := by kernel_rfl
  obtain ⟨v0, l1, d0, s1, q0, r1, k1, m1, n1, t0, hA1⟩ := trodAll_cons hA
  obtain ⟨k2, m2, n2⟩ := trodAll_nil hA1
  subst k2; subst m2
  obtain ⟨L⟩ := args
  have k1 : L = [v0] := k1
  subst k1; subst m1
  obtain ⟨z0, t0⟩ := t0
  have w0 : ∀ n ∈ d0.weights Try.prog 51, n ≤ reachBytes := fun n hn => by have := List.all_eq_true.1 hsz0 n (DataW.weights_mem_each (j := 0) rfl rfl n hn); simpa using this
  have o0 : Value.okWide Try.prog W .any base 51 v0 := hval0 0 _ v0 rfl rfl
  obtain ⟨cs0, x0, y0⟩ := okWide_fields f51 (by simp) o0
  subst x0
  rw [y0] at t0
  obtain ⟨hl0, fu0, fl0⟩ := trod_fields f51 (by simp) t0
  rw [c51] at hl0
  obtain ⟨x0_0, r0_0, ee0_0, hl0_0⟩ := cons_of hl0
  obtain ⟨x0_1, r0_1, ee0_1, hl0_1⟩ := cons_of hl0_0
  obtain ⟨x0_2, r0_2, ee0_2, hl0_2⟩ := cons_of hl0_1
  obtain ⟨x0_3, r0_3, ee0_3, hl0_3⟩ := cons_of hl0_2
  obtain ⟨x0_4, r0_4, ee0_4, hl0_4⟩ := cons_of hl0_3
  obtain ⟨x0_5, r0_5, ee0_5, hl0_5⟩ := cons_of hl0_4
  obtain ⟨x0_6, r0_6, ee0_6, hl0_6⟩ := cons_of hl0_5
  obtain ⟨x0_7, r0_7, ee0_7, hl0_7⟩ := cons_of hl0_6
  obtain ⟨x0_8, r0_8, ee0_8, hl0_8⟩ := cons_of hl0_7
  obtain ⟨x0_9, r0_9, ee0_9, hl0_9⟩ := cons_of hl0_8
  obtain ⟨x0_10, r0_10, ee0_10, hl0_10⟩ := cons_of hl0_9
  have een0 := List.eq_nil_of_length_eq_zero hl0_10
  subst een0
  subst ee0_10
  subst ee0_9
  subst ee0_8
  subst ee0_7
  subst ee0_6
  subst ee0_5
  subst ee0_4
  subst ee0_3
  subst ee0_2
  subst ee0_1
  subst ee0_0
  obtain ⟨ty0Size, t0Size, w0Size⟩ := fl0 0 _ _ rfl
  rw [c3] at t0Size
  obtain ⟨p0Size, e0Size, g0Size⟩ := (opc_int u3).opens t0Size (fun m hm => w0 m (w0Size m hm))
  simp only [List.drop_zero, List.take_succ_cons, List.take_zero] at e0Size
  cases e0Size
  obtain ⟨ty0At, t0At, w0At⟩ := fl0 1 _ _ rfl
  rw [c3] at t0At
  obtain ⟨p0At, e0At, g0At⟩ := (opc_int u3).opens t0At (fun m hm => w0 m (w0At m hm))
  simp only [List.drop_zero, List.take_succ_cons, List.take_zero, List.drop_succ_cons] at e0At
  cases e0At
  obtain ⟨ty0L, t0L, w0L⟩ := fl0 2 _ _ rfl
  rw [c25] at t0L
  haveI := opc_kv f47 c47 c39 u39 u5 c5 y5
  obtain ⟨a0L, c0L, p0L, e0L, g0L⟩ := open_sl (E := 47) (α := KV) (good := (fun w (y : KV) => (By w y.ka y.kc y.k ∧ By w y.va y.vc y.v) ∧ y.k.length ≤ Rb ∧ y.v.length ≤ Rb)) u25 c47 y47 t0L (fun m hm => w0 m (w0L m hm))
  simp only [List.drop_zero, List.take_succ_cons, List.take_zero, List.drop_succ_cons] at e0L
  cases e0L
  obtain ⟨ty0E, t0E, w0E⟩ := fl0 3 _ _ rfl
  rw [c47] at t0E
  obtain ⟨p0E, e0E, g0E⟩ := (opc_kv f47 c47 c39 u39 u5 c5 y5).opens t0E (fun m hm => w0 m (w0E m hm))
  simp only [List.drop_zero, List.take_succ_cons, List.take_zero, List.drop_succ_cons] at e0E
  cases e0E
  obtain ⟨ty0R, t0R, w0R⟩ := fl0 4 _ _ rfl
  rw [c49] at t0R
  obtain ⟨p0R, e0R, g0R⟩ := (opc_rg f49 c49 c39 c4 u39 u5 c5 y5 u4).opens t0R (fun m hm => w0 m (w0R m hm))
  simp only [List.drop_zero, List.take_succ_cons, List.take_zero, List.drop_succ_cons] at e0R
  cases e0R
  obtain ⟨ty0B, t0B, w0B⟩ := fl0 5 _ _ rfl
  rw [c39] at t0B
  obtain ⟨p0B, e0B, g0B⟩ := (opc_sb u39 u5 c5 y5).opens t0B (fun m hm => w0 m (w0B m hm))
  simp only [List.drop_zero, List.take_succ_cons, List.take_zero, List.drop_succ_cons] at e0B
  cases e0B
  obtain ⟨ty0More, t0More, w0More⟩ := fl0 6 _ _ rfl
  rw [c39] at t0More
  obtain ⟨p0More, e0More, g0More⟩ := (opc_sb u39 u5 c5 y5).opens t0More (fun m hm => w0 m (w0More m hm))
  simp only [List.drop_zero, List.take_succ_cons, List.take_zero, List.drop_succ_cons] at e0More
  cases e0More
  obtain ⟨ty0Key, t0Key, w0Key⟩ := fl0 7 _ _ rfl
  rw [c39] at t0Key
  obtain ⟨p0Key, e0Key, g0Key⟩ := (opc_sb u39 u5 c5 y5).opens t0Key (fun m hm => w0 m (w0Key m hm))
  simp only [List.drop_zero, List.take_succ_cons, List.take_zero, List.drop_succ_cons] at e0Key
  cases e0Key
  refine Calls.mono (FnV.start (fits_s (r := p0R) g0Size g0L.en (fun e he => (g0L.el e he).2) g0E.1.1.r0 g0E.1.2.r0 g0E.2 g0R.1.1.r0 g0R.1.2.r0)) fun e W' ⟨v, he, hv, hE⟩ => ?_
  subst he
  subst hv
  have hBl : Below W.heap.size W W' := hE.below (Nat.le_refl _) (fun _ _ h => h)
  exact ⟨_, rfl, post_true (by kernel_rfl) rfl rfl (tb := 4) (by kernel_rfl) (by kernel_rfl) rfl rfl rfl hW' hBl⟩
theorem leafFits_holds : Rows.LeafFitsUptoSaid :=
  OpenClaim.holds_of_cond 11 Try.f11 rfl rfl rfl rfl rfl rfl rfl ⟨rfl, rfl, rfl, rfl, rfl⟩ rfl rfl rfl rfl rfl (by kernel_rfl) Try.func11 (by kernel_rfl)
    (of_decide_eq_true (by kernel_rfl)) (by unfold Func.isWrapper; rw [if_neg (of_decide_eq_false (by kernel_rfl))]; exact ⟨rfl, rfl⟩)
    (fun os started H enc _ F => leafFits_lifted os started H enc F)
end Go.Proofs.Ytbkaabjjmoaijaa
