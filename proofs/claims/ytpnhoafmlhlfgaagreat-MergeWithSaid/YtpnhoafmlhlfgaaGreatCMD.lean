/- Part of a proof: functions as cells; heads; merge.Union is made. -/
import Derived.Test.YtpnhoafmlhlfgaaGreatCMC
namespace Go.Sx
open Go Go.Proofs
set_option maxRecDepth 10000
variable {w0 : World} {H : List Ck}
/-- A function (none: nil). -/
structure Fu where
  o : Option (Nat × List Value)
@[reducible] def Fu.val (x : Fu) : Value := match x.o with
  | none => .nilFunc
  | some (k, cap) => .func (.func k) #[] cap.toArray
instance : Cel Fu := ⟨1, fun x => [x.val], fun _ => rfl, fun x => by obtain ⟨_ | ⟨k, cap⟩⟩ := x <;> rfl, Nat.one_pos⟩
instance : ElT Tryz.prog 40 Fu := ⟨trivial⟩
/-- An address of a block. -/
structure Pb where
  b : Nat
@[reducible] def Pb.val (x : Pb) : Value := .pointer (some ⟨x.b, 0, none⟩)
instance : Cel Pb := ⟨1, fun x => [x.val], fun _ => rfl, fun _ => rfl, Nat.one_pos⟩
instance : ElT Tryz.prog 117 Pb := ⟨trivial⟩
theorem FnV.rm {P : Program} {c : Ck} {H R : List Ck} {k : FuncId} {args : Array Value} {v : Value} (hr : Rm c H R) (h : FnV P w0 (c :: R) k args v) : FnV P w0 H k args v :=
  FnS.post (FnS.ent h (Ent.perm hr.out)) fun _ _ ⟨h1, h2⟩ => ⟨H, ⟨h1, rfl⟩, by subst h2; exact Ent.perm hr.out.symm⟩
theorem hok_s {b c : Nat} {a : Option Addr} {es : List KV} : FnV Tryz.prog w0 (.hb b 119 [.slice a es.length c] :: H) 64 #[.pointer (some ⟨b, 0, none⟩)] (.bool (decide ((0 : Int) < es.length))) := by
  refine fns_enter Tryz.func64 rfl rfl rfl ?_
  refine sx ?_
  exact s_ret1 rfl rfl ⟨rfl, rfl⟩
theorem hstep_s {b c : Nat} {a : Option Addr} {e : KV} {es : List KV} (h : RSl w0 H a c (e :: es)) : FnS Tryz.prog w0 (.hb b 119 [.slice a (es.length + 1 : Nat) c] :: H) 65 #[.pointer (some ⟨b, 0, none⟩)]
    (fun v H' => v = .tuple #[] ∧ H' = .hb b 119 [.slice (sl a c 1 2) es.length (c - 1)] :: H) := by
  refine fns_enter Tryz.func65 rfl rfl rfl ?_
  refine s_kn (Kn.sl h).tl fun ⟨l1, l2⟩ => ?_
  simp only [List.length_cons] at l1
  refine sx ?_
  refine s_yS rfl rfl rfl (y_slF (k := 1) rfl rfl (by omega)) ?_
  refine sx ?_
  exact s_end0 rfl ⟨rfl, rfl⟩
theorem clone_s {a : Option Addr} {c : Nat} {xs : List Fu} (hx : RSl w0 H a c xs) (hl : xs.length ≤ 5864062014805) : FnS Tryz.prog w0 H 62 #[.slice a xs.length c] (fun v H' => ∃ a' c', v = .slice a' xs.length c' ∧ H' = ol 40 a' c' xs :: H) := by
  refine fns_enter Tryz.func62 rfl rfl rfl ?_
  refine sx ?_
  refine s_cond rfl (fun t1 => ?_) (fun t1 => ?_)
  · refine s_kn (φ := xs = []) (fun w hw => ?_) fun e => ?_
    · have h := hx w hw
      have h1 := h.nil (by simpa using t1)
      exact List.eq_nil_of_length_eq_zero (by have := h.le; omega)
    subst e
    refine sx ?_
    exact s_ret1 rfl rfl ⟨none, 0, rfl, rfl⟩ Ent.nilS
  refine sx ?_
  refine s_bsl ([] : List Fu) rfl rfl fun b1 => ?_
  refine sx ?_
  refine s_app (ys := xs) ?_
  intro a1 c1
  refine sx ?_
  exact s_ret1 rfl rfl ⟨a1, c1, rfl, rfl⟩
@[reducible] def unL (b : Nat) (a : Option Addr) (c : Nat) (fs : List Fu) : List Ck := [.hb b 67 [.slice a fs.length c], ol 40 a c fs]
theorem union_s {a : Option Addr} {c : Nat} {fs : List Fu} (hx : RSl w0 H a c fs) (hl : fs.length ≤ 5864062014805) : FnS Tryz.prog w0 H 24 #[.slice a fs.length c] (fun v H' => ∃ b a' c', v = .func (.func 63) #[] #[.pointer (some ⟨b, 0, none⟩)] ∧ H' = unL b a' c' fs ++ H) := by
  refine fns_enter Tryz.func24 rfl rfl rfl ?_
  refine sx ?_
  refine s_call rfl (clone_s hx hl) ?_
  rintro _ _ ⟨a1, c1, rfl, rfl⟩
  refine ⟨chk_seq, ?_⟩
  refine sx ?_
  refine s_alloc fun b3 => ?_
  refine sx ?_
  exact s_ret1 rfl rfl ⟨b3, a1, c1, rfl, rfl⟩
end Go.Sx
