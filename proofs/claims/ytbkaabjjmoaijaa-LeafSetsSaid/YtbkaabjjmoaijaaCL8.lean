/- Part of a proof: walks through functions of the program, in the words of the calculus of the texts Sx. -/
import Derived.Test.YtbkaabjjmoaijaaCL7
import Derived.Test.YtbkaabjjmoaijaaCKA
namespace Go.Sx
open Go Go.Proofs
set_option maxRecDepth 10000

/-- Any operation of two values, by a closed fact. -/
theorem y_bin {P : Program} {S : World → Prop} {l : List (Nat × Value)} {d : Option Tmp} {ty : TypeId} {pos : String} {af : Array Edge} {g : Option (Nat × Bool)} {op : BinOp} {T U : TypeId} {x y : Operand} {a b r : Value} (hx : ev l x = some a) (hy : ev l y = some b)
    (hg : ∀ w, (eqGuard op T x y a b).run P w = .ok () w) (hr : ∀ w, (binOp op T a b).run P w = .ok r w) : Y P S ⟨d, .binOp op T x y U, ty, pos, af, g⟩ l r := .mk fun w _ ρ hρ => by
  simp [execOp, hρ _ _ hx, hρ _ _ hy, hg, hr]

/-! ### The deferred call -/
theorem catch_idle (w : World) (b4 b5 : Nat) : CallsD Try.prog 49 #[.pointer (some ⟨b4, 0, none⟩), .pointer (some ⟨b5, 0, none⟩)] .returning w
    (fun e u' w' => (∃ v, e = .returned v) ∧ settle u' = .returning ∧ w' = w) := by
  refine callsD_of_wpS Try.func49 rfl fun c₀ cs hu => ?_
  apply wpS_seq
  apply wpS_region
  simp [wpOpsS, go_sem, recoverD, hu, Exit.thenS]
  refine wpS_of_wp ?_
  refine CJ.out (n := 16) (ds := []) (l := [(2, .nilIface)]) ?_ _ (frok_of (by simp) rfl (by simp))
  refine sxo ?_
  refine l_y rfl rfl (y_bin rfl rfl (fun _ => by kernel_rfl) (fun _ => by kernel_rfl) (r := .bool false)) ?_
  refine sxo ?_
  refine .mk fun a ha => ⟨ha.defers, .returning, by rw [← hu], .tuple #[], by rw [results_none rfl], ⟨_, rfl⟩, rfl, rfl⟩

theorem catch_bad (w : World) (b4 b5 : Nat) (x : Value) (y : Value) (h4 : HB w b4 25 [x]) (h5 : HB w b5 24 [y]) (hne : b4 ≠ b5) : CallsD Try.prog 49 #[.pointer (some ⟨b4, 0, none⟩), .pointer (some ⟨b5, 0, none⟩)] (.panicking badE) w
    (fun e u' w' => (∃ v, e = .returned v) ∧ settle u' = .returning ∧ HB w' b4 25 [.slice none 0 0] ∧ HB w' b5 24 [.int .i64 55] ∧ Ext (fun i => i = b4 ∨ i = b5) w w') := by
  refine callsD_of_wpS Try.func49 rfl fun c₀ cs hu => ?_
  apply wpS_seq
  apply wpS_region
  simp [wpOpsS, go_sem, recoverD, hu, Exit.thenS, badE]
  refine wpS_of_wp ?_
  refine CJ.out (n := 16) (ds := []) (l := [(2, .iface 77 (.agg #[])), (0, .pointer (some ⟨b4, 0, none⟩)), (1, .pointer (some ⟨b5, 0, none⟩))]) ?_ _ (frok_of (by simp) rfl (by simp))
  refine sxo ?_
  refine l_y rfl rfl (y_bin rfl rfl (fun _ => by kernel_rfl) (fun _ => by kernel_rfl) (r := .bool true)) ?_
  refine sxo ?_
  refine l_y rfl rfl (y_tas rfl (fun _ => by kernel_rfl) (r := .tuple #[.agg #[], .bool true])) ?_
  refine l_y rfl rfl (y_move rfl) ?_
  refine l_y rfl rfl (y_ext (vs := [.agg #[], .bool true]) rfl rfl) ?_
  refine l_y rfl rfl (y_ext (vs := [.agg #[], .bool true]) rfl rfl) ?_
  refine l_alloc rfl rfl rfl ?_
  intro b w1 hN
  refine ⟨trivial, ?_⟩
  refine l_storeA (o := 0) (cs := []) rfl rfl rfl rfl hN.hb (Nat.le_refl _) rfl rfl ?_
  intro w2 hB2 hX2 hS2
  refine ⟨trivial, ?_⟩
  have hE2 : Ex w w2 := hN.ex.fresh hX2 (by intro i hi e; have := hN.at_; omega)
  refine sxo ?_
  refine l_store (o := 0) rfl rfl rfl rfl (h4.ex hE2) Nat.one_pos rfl ?_
  intro w3 hB3 hX3 hS3
  refine ⟨trivial, ?_⟩
  have hB5 := (h5.ex hE2).ext hX3 (by omega)
  refine l_store (o := 0) rfl rfl rfl rfl hB5 Nat.one_pos rfl ?_
  intro w4 hB4 hX4 hS4
  refine ⟨trivial, ?_⟩
  refine sxo ?_
  refine .mk fun a ha => ⟨ha.defers, .panicking [⟨.iface 77 (.agg #[]), true, false⟩], rfl, .tuple #[], by rw [results_none rfl], ⟨_, rfl⟩, rfl, hB3.ext hX4 (by omega), hB4, ?_⟩
  exact (hE2.ext.trans (hX3.mono (fun _ _ h => .inl h))).trans (hX4.mono (fun _ _ h => .inr h))
end Go.Sx
