/- The given statement DeadKeptUptoSaid: for every input of bulk at most 1048576 the law returns true, and the arguments read as they did. -/
import Derived.Deep.CondSized
import Derived.OpenShut
import Derived.JoinedCond
import Derived.Test.YtceandgmpcpmfaaCDF
import Derived.Test.YtceandgmpcpmfaaCR4
import Derived.Test.YtceandgmpcpmfaaCKB
import Derived.Test.YtceandgmpcpmfaaRows
namespace Go.Proofs.Ytceandgmpcpmfaa
open Go.ChangeShapes Go.WideShapes Go.ChangeAt Go.RowKit Go.Sx
theorem own' : ownKnob Try.prog.godebug = none := by kernel_rfl
theorem cons_of {α : Type} {l : List α} {n : Nat} (h : l.length = n + 1) : ∃ a r, l = a :: r ∧ r.length = n := by
  cases l with
  | nil => simp at h
  | cons a r => exact ⟨a, r, rfl, by simpa using h⟩
theorem bulk_pos {H : Type} : ∀ (d : DataW H), 1 ≤ Rows.uptoBulk d
  | .lit l => by cases l <;> simp [Rows.uptoBulk]
  | .nil => by simp [Rows.uptoBulk]
  | .ptr d => by simp [Rows.uptoBulk]
  | .slice elems spare => by simp [Rows.uptoBulk]
  | .agg parts => by simp [Rows.uptoBulk]
  | .iface _ d => by simp [Rows.uptoBulk]
  | .map entries => by simp [Rows.uptoBulk]
  | .held _ => by simp [Rows.uptoBulk]
theorem bulk_len {H : Type} : ∀ (l : List (DataW H)), l.length ≤ Rows.uptoBulkAll l
  | [] => Nat.zero_le _
  | d :: r => by
    have h1 := bulk_len r
    have h2 := bulk_pos d
    simp only [Rows.uptoBulkAll, List.length_cons]
    omega
theorem trod_bulk {H : Type} {enc : TypeId × Value → H} {w : World} {base : Nat} {spare : Nat → Bool} {held : Bool} {P : Program} {T E fuel : Nat} {a : Option Addr} {n c : Nat} {x : DataW H × List MemPlace} (ht : P.underlying T = some (.slice E))
    (h : DataW.trod enc P w base spare held fuel T [.slice a n c] = some x) : n ≤ Rows.uptoBulk x.1 := by
  rcases Go.Deep.open_slice ht h with ⟨h1, _⟩ | ⟨a', len, cap, m, n', D, Pl, h1, hb, hl, hm, hmm, hx, hi⟩
  · cases h1; exact Nat.zero_le _
  · cases h1
    rw [hx]
    have h1 := bulk_len ((List.range n).map D)
    simp only [Rows.uptoBulk, List.length_map, List.length_range] at h1 ⊢
    omega
set_option maxRecDepth 100000 in
set_option maxHeartbeats 2000000 in
theorem deadKept_lifted (os : Os) (started : os.Started) (H : Type) (enc : TypeId × Value → H) (F : Stop.Interp) :
    ReturnsInHanded {} Try.checked os 6 .any ((Rows.OpenSpec.upto Rows.deadKeptSpec).pre6 enc Try.prog Try.f6 Rows.deadKeptUptoRow.domain false) (((Rows.OpenSpec.upto Rows.deadKeptSpec).at F).post enc Try.prog Try.f6 false true false false) := by
  refine returnsInHanded_of_cond_sized (C := Try.checked) (s := (Rows.OpenSpec.upto Rows.deadKeptSpec)) (k := Rows.uptoSmall) rfl own' started (by kernel_rfl) Try.func6
    (OpenSpec.witness (enc := enc) (C := Try.checked) (s := (Rows.OpenSpec.upto Rows.deadKeptSpec)) (k := Rows.uptoSmall) rfl false ⟨#[], #[.slice none 0 0, .slice none 0 0, .int .i64 0, .int .u64 0], []⟩ 8 (by kernel_rfl) (by kernel_rfl) (by kernel_rfl) (x := ([.nil, .nil, .lit (.int .i64 0), .lit (.int .u64 0)], [], [])) (by kernel_rfl) rfl (by kernel_rfl)) ?_
  intro W base args ds gs before hval0 hW hcnd hk hsz0 hholds
  have hW' := hW
  obtain ⟨p, q, hA0, hV, rfl, hfz, hnd⟩ := hW
  have hA : DataW.TrodAll enc Try.prog W 0 (fun _ => true) true [39, 35, 3, 32] args.toList ds p := hA0
  obtain ⟨rfl, rfl⟩ := trodVars_none hV
  have u39 : Try.prog.underlying 39 = some (.slice 34) := by kernel_rfl
  have f34 : fieldsOf Try.prog 34 = [(3, 0), (32, 1), (32, 2)] := by kernel_rfl
  have c34 : Try.prog.cellsOf 34 = 3 := by kernel_rfl
  have c3 : Try.prog.cellsOf 3 = 1 := by kernel_rfl
  have c32 : Try.prog.cellsOf 32 = 1 := by kernel_rfl
  have u3 : Try.prog.underlying 3 = some (.int .i64) := by kernel_rfl
  have u32 : Try.prog.underlying 32 = some (.int .u64) := by kernel_rfl
  have y34 : Try.prog.bytesOf 34 = 24 := by kernel_rfl
  have u35 : Try.prog.underlying 35 = some (.slice 32) := by kernel_rfl
  have y32 : Try.prog.bytesOf 32 = 8 := by kernel_rfl
  obtain ⟨v0, l1, d0, s1, q0, r1, k1, m1, n1, t0, hA1⟩ := trodAll_cons hA
  obtain ⟨v1, l2, d1, s2, q1, r2, k2, m2, n2, t1, hA2⟩ := trodAll_cons hA1
  obtain ⟨v2, l3, d2, s3, q2, r3, k3, m3, n3, t2, hA3⟩ := trodAll_cons hA2
  obtain ⟨v3, l4, d3, s4, q3, r4, k4, m4, n4, t3, hA4⟩ := trodAll_cons hA3
  obtain ⟨k5, m5, n5⟩ := trodAll_nil hA4
  subst k5; subst m5
  subst k4; subst m4
  subst k3; subst m3
  subst k2; subst m2
  obtain ⟨L⟩ := args
  have k1 : L = [v0, v1, v2, v3] := k1
  subst k1; subst m1
  obtain ⟨z0, t0⟩ := t0
  have w0 : ∀ n ∈ d0.weights Try.prog 39, n ≤ reachBytes := fun n hn => by have := List.all_eq_true.1 hsz0 n (DataW.weights_mem_each (j := 0) rfl rfl n hn); simpa using this
  have o0 : Value.okWide Try.prog W .any base 39 v0 := hval0 0 _ v0 rfl rfl
  rw [okWide_slv u39 o0] at t0
  haveI := opc_lf f34 c34 c3 c32 u3 u32
  obtain ⟨a0, c0, p0, e0, g0⟩ := open_sl (E := 34) (α := Lf) (good := Lf.good) u39 c34 y34 t0 w0
  have e0 := List.singleton_inj.1 e0
  subst e0
  obtain ⟨z1, t1⟩ := t1
  have w1 : ∀ n ∈ d1.weights Try.prog 35, n ≤ reachBytes := fun n hn => by have := List.all_eq_true.1 hsz0 n (DataW.weights_mem_each (j := 1) rfl rfl n hn); simpa using this
  have o1 : Value.okWide Try.prog W .any base 35 v1 := hval0 1 _ v1 rfl rfl
  rw [okWide_slv u35 o1] at t1
  haveI := opc_u64 u32
  obtain ⟨a1, c1, p1, e1, g1⟩ := open_sl (E := 32) (α := U64) (good := (fun _ (n : U64) => 0 ≤ n.n ∧ n.n ≤ 18446744073709551615)) u35 c32 y32 t1 w1
  have e1 := List.singleton_inj.1 e1
  subst e1
  obtain ⟨z2, t2⟩ := t2
  have w2 : ∀ n ∈ d2.weights Try.prog 3, n ≤ reachBytes := fun n hn => by have := List.all_eq_true.1 hsz0 n (DataW.weights_mem_each (j := 2) rfl rfl n hn); simpa using this
  have o2 : Value.okWide Try.prog W .any base 3 v2 := hval0 2 _ v2 rfl rfl
  rw [okWide_intv u3 o2] at t2
  obtain ⟨p2, e2, g2⟩ := (opc_int u3).opens t2 w2
  have e2 := List.singleton_inj.1 e2
  subst e2
  obtain ⟨z3, t3⟩ := t3
  have w3 : ∀ n ∈ d3.weights Try.prog 32, n ≤ reachBytes := fun n hn => by have := List.all_eq_true.1 hsz0 n (DataW.weights_mem_each (j := 3) rfl rfl n hn); simpa using this
  have o3 : Value.okWide Try.prog W .any base 32 v3 := hval0 3 _ v3 rfl rfl
  rw [okWide_intv u32 o3] at t3
  obtain ⟨p3, e3, g3⟩ := (opc_u64 u32).opens t3 w3
  have e3 := List.singleton_inj.1 e3
  subst e3
  refine Calls.mono (FnV.start (kept_law g0.sl.r0 g1.sl.r0 (by have := g0.sz; simp only [Rb] at this; omega) (by have h1 : p1.length ≤ Rows.uptoBulk d1 := trod_bulk u35 t1; have hk2 : Rows.uptoBulkAll [d0, d1, d2, d3] ≤ 1048576 := of_decide_eq_true hk; simp only [Rows.uptoBulkAll] at hk2; omega) g2)) fun e W' ⟨v, he, hv, hE⟩ => ?_
  subst he
  subst hv
  have hBl : Below W.heap.size W W' := hE.below (Nat.le_refl _) (fun _ _ h => h)
  exact ⟨_, rfl, post_true (by kernel_rfl) rfl rfl (tb := 4) (by kernel_rfl) (by kernel_rfl) rfl rfl rfl hW' hBl⟩
theorem deadKept_holds : Rows.DeadKeptUptoSaid :=
  OpenClaim.holds_of_cond 6 Try.f6 rfl rfl rfl rfl rfl rfl rfl ⟨rfl, rfl, rfl, rfl, rfl⟩ rfl rfl rfl rfl rfl (by kernel_rfl) Try.func6 (by kernel_rfl)
    (of_decide_eq_true (by kernel_rfl)) (by unfold Func.isWrapper; rw [if_neg (of_decide_eq_false (by kernel_rfl))]; exact ⟨rfl, rfl⟩)
    (fun os started H enc _ F => deadKept_lifted os started H enc F)
end Go.Proofs.Ytceandgmpcpmfaa
