/- Part of a proof: merge.Of, walked: it is made, and it tells. -/
import Derived.Test.YtpnhoafmlhlfgaaCMMj
namespace Go.Sx
open Go Go.Proofs
set_option maxRecDepth 10000
variable {w0 : World} {H : List Ck}
@[reducible] def ofL (b : Nat) (a : Option Addr) (c : Nat) (out : List KV) : List Ck := [.hb b 26 [.slice a out.length c], ol 36 a c out, stars oKVs out]
@[reducible] def ofG (b : Nat) (a : Option Addr) (c : Nat) (out : List KV) : Ck := .star (ofL b a c out)
/-- Small bytes. -/
def SmL (L : List (Bs × Bs)) : Prop := ∀ p ∈ L, p.1.length ≤ 140737488355328 ∧ p.2.length ≤ 140737488355328
theorem SmL.kv {out : List KV} {L : List (Bs × Bs)} (h : SmL L) (ho : out.map KV.p = L) {x : KV} (hx : x ∈ out) : x.k.length ≤ 140737488355328 ∧ x.v.length ≤ 140737488355328 := by
  subst ho
  exact h x.p (List.mem_map_of_mem hx)
theorem ent_oKVs {x : KV} {H R1 R2 H' : List Ck} (h1 : Rm (ob x.ka x.kc x.k) H R1) (h2 : Rm (ob x.va x.vc x.v) R1 R2) (h : Ent R2 H') : Ent H (.star (oKVs x) :: H') :=
  Ent.star (L := oKVs x) (Ent.cons h1 (Ent.cons h2 h))
theorem REe.of {x : KV} : REe w0 (.star (oKVs x) :: H) x := REe.ent (H' := oKVs x ++ H) ⟨RBy.hd, RBy.hd.tl⟩ (Ent.open Ent.refl)
structure OfI where
  i : Nat
  K : List Ck
set_option maxHeartbeats 4000000 in
theorem of_tell {b c : Nat} {a : Option Addr} {out : List KV} (hsm : SmL (out.map KV.p)) : TellS Try.prog w0 true (ofG b a c out) (fun _ => ofG b a c out) (ofG b a c out) (ofG b a c out) 27 [.pointer (some ⟨b, 0, none⟩)] (out.map KV.p) := by
  intro ll φ fin hy K h0
  refine FnS.ent (H' := ofL b a c out ++ [.star K]) ?_ (Ent.open Ent.refl)
  refine fns_enter Try.func27 rfl rfl rfl ?_
  refine s_kn (Kn.sl (xs := out) (RSl.hd.tl)) fun ⟨l1, l2⟩ => ?_
  simp only [maxLen] at l2
  refine sx ?_
  refine s_loop (fun q : OfI => [(0, yv ll), (5, .slice a out.length c), (6, .int .i64 out.length), (7, .int .i64 q.i)]) (fun q => .star q.K :: ofL b a c out) (fun q => q.i ≤ out.length ∧ φ q.i q.K) (fun q => out.length - q.i) ⟨0, K⟩ ⟨Nat.zero_le _, h0⟩ ?_
  rintro ⟨i, K1⟩ ⟨h1, h2⟩
  simp only at h1 h2 ⊢
  refine sx ?_
  refine s_if rfl (fun t1 => ?_) (fun t1 => ?_)
  · obtain ⟨e, he⟩ := get_lt out i (by omega)
    have hst : REe w0 (stars oKVs out :: []) e := REe.st (List.mem_of_getElem? he)
    obtain ⟨y1, y2⟩ := hsm.kv rfl (List.mem_of_getElem? he)
    refine sx ?_
    refine s_alloc fun b7 => ?_
    refine sx ?_
    have hk : RBy w0 (.hb b7 36 (Cel.f e) :: .star K1 :: ofL b a c out) e.ka e.kc e.k := hst.k.tl.tl.tl.tl
    have hv : RBy w0 (.hb b7 36 (Cel.f e) :: .star K1 :: ofL b a c out) e.va e.vc e.v := hst.v.tl.tl.tl.tl
    refine sx ?_; refine s_drR (.star K1) (by exact rm) (.one true 0 (.one true 1 (.one true 2 (.one true 4 (.one true 5 (.one false 3 (.one false 6 (.one false 7 (.one true 8 .nil))))))))) mixed (by kernel_rfl) ?_; refine sx ?_
    refine s_call rfl (copied_s (xs := e.k) (by exact rby) y1) ?_
    rintro _ _ ⟨ka, rfl, rfl⟩
    refine ⟨chk_held (by exact ent), ?_⟩
    refine sx ?_
    refine s_call rfl (copied_s (xs := e.v) (by exact rby) y2) ?_
    rintro _ _ ⟨va, rfl, rfl⟩
    refine ⟨chk_held (by exact ent), ?_⟩
    refine sx ?_
    refine s_yld rfl rfl ((hy i ⟨ka, e.k.length, e.k, va, e.v.length, e.v⟩ 0 K1 _ [.hb b7 36 (Cel.f e)] (get_map (f := KV.p) (x := e) he) h2 (fun _ => rfl) REe.of).ent ?_) ?_
    · refine ent_oKVs (by exact rm) (by exact rm) ?_
      refine Ent.cons (by exact rm) ?_
      exact Ent.star (L := ofL b a c out) (by exact ent)
    rintro _ _ ⟨K2, hK2, rfl⟩
    have hop : Ent (.star K2 :: ofG b a c out :: [.hb b7 36 (Cel.f e)]) (.star K2 :: .hb b7 36 (Cel.f e) :: ofL b a c out) := Ent.head (Ent.open (by exact ent))
    refine ⟨chk_held (hop.trans (by exact ent)), ?_⟩
    refine s_entL _ hop ?_
    rcases hK2 with ⟨rfl, hK2⟩ | ⟨rfl, hK2⟩
    · refine sx ?_
      exact s_again ⟨i + 1, K2⟩ ⟨by simp only; omega, hK2⟩ (by simp only; omega)
    · refine sx ?_
      exact s_ret0 rfl ⟨rfl, K2, .inr ⟨hK2, rfl⟩⟩ (Ent.star (L := ofL b a c out) (by exact ent))
  obtain rfl : i = out.length := by omega
  refine sx ?_
  exact s_end0 rfl ⟨rfl, K1, .inl ⟨by simpa using h2, rfl⟩⟩ (Ent.star (L := ofL b a c out) (by exact ent))
structure OfJ where
  i : Nat
  a : Option Addr
  c : Nat
  os : List KV
set_option maxHeartbeats 4000000 in
theorem Of_s {a : Option Addr} {c : Nat} {es : List KV} (hx : RSl w0 H a c es) (hr : ∀ e ∈ es, REe w0 H e) (hl : es.length ≤ 549755813888) (hsm : SmL (es.map KV.p)) :
    FnS Try.prog w0 H 8 #[.slice a es.length c] (fun v H' => ∃ b a' c' out, v = .func (.func 27) #[] #[.pointer (some ⟨b, 0, none⟩)] ∧ (out : List KV).map KV.p = es.map KV.p ∧ H' = ofG b a' c' out :: H) := by
  refine fns_enter Try.func8 rfl rfl rfl ?_
  refine sx ?_
  refine s_alloc fun b3 => ?_
  refine sx ?_
  refine s_loop (fun q : OfJ => [(3, .pointer (some ⟨b3, 0, none⟩)), (6, .slice a es.length c), (7, .int .i64 es.length), (8, .int .i64 q.i)]) (fun q => .hb b3 26 [.slice q.a q.os.length q.c] :: ol 36 q.a q.c q.os :: stars oKVs q.os :: H) (fun q => q.i ≤ es.length ∧ q.os.map KV.p = (es.map KV.p).take q.i) (fun q => es.length - q.i) ⟨0, none, 0, []⟩ ⟨Nat.zero_le _, by simp⟩ ?_ (he := Ent.head (Ent.nilS.trans (Ent.head stars_nil)))
  rintro ⟨i, oa, oc, os⟩ ⟨h1, h2⟩
  simp only at h1 h2 ⊢
  have hol : os.length = i := by
    have := congrArg List.length h2
    simp only [List.length_map, List.length_take] at this
    omega
  refine sx ?_
  refine s_if rfl (fun t1 => ?_) (fun t1 => ?_)
  · obtain ⟨e, he⟩ := get_lt es i (by omega)
    have her := hr e (List.mem_of_getElem? he)
    obtain ⟨y1, y2⟩ := hsm.kv rfl (List.mem_of_getElem? he)
    have hk := her.k
    have hv := her.v
    refine sx ?_
    refine s_alloc fun b5 => ?_
    refine sx ?_
    refine s_drU (.hb b5 36 (Cel.f e) :: .hb b3 26 [.slice oa os.length oc] :: H) (.one true 0 (.one true 1 (.one true 2 (.one true 4 (.one true 5 (.one false 3 (.one false 6 (.one true 7 (.one false 8 (.one false 9 .nil)))))))))) (.one false 10 .nil) [10] #[true, true, true, true, true, true, true, true, true, true, false] mixed (by kernel_rfl) ?_
    refine sx ?_
    refine s_call rfl (copied_s (xs := e.k) (by exact rby) y1) ?_
    rintro _ _ ⟨ka, rfl, rfl⟩
    refine ⟨chk_held (by exact ent), ?_⟩
    refine sx ?_
    refine s_call rfl (copied_s (xs := e.v) (by exact rby) y2) ?_
    rintro _ _ ⟨va, rfl, rfl⟩
    refine ⟨chk_held (by exact ent), ?_⟩
    refine sx ?_
    refine s_bsl [(⟨ka, e.k.length, e.k, va, e.v.length, e.v⟩ : KV)] rfl rfl fun b42 => ?_
    refine s_app (xs := os) (ys := [(⟨ka, e.k.length, e.k, va, e.v.length, e.v⟩ : KV)]) ?_ (hby := by simp only [List.length_cons, List.length_nil]; omega)
    intro a4 c4
    refine sx ?_
    refine s_bar ?_
    refine sx ?_
    refine s_again ⟨i + 1, a4, c4, os ++ [⟨ka, e.k.length, e.k, va, e.v.length, e.v⟩]⟩ ⟨by simp only; omega, ?_⟩ (by simp only; omega) (he := ?_)
    · simp only [List.map_append]
      rw [h2, snocT (get_map (f := KV.p) he)]
      rfl
    · refine Ent.cons (by exact rm) (Ent.cons (by exact rm) ?_)
      exact Ent.trans (H' := ob ka e.k.length e.k :: ob va e.v.length e.v :: stars oKVs os :: H) (by exact ent) (stars_snoc (f := oKVs) (s := ⟨ka, e.k.length, e.k, va, e.v.length, e.v⟩))
  obtain rfl : i = es.length := by omega
  rw [List.take_of_length_le (by simp)] at h2
  refine sx ?_
  exact s_ret1 rfl rfl ⟨b3, oa, oc, os, rfl, h2, rfl⟩ (Ent.star (L := ofL b3 oa oc os) (by exact ent))
end Go.Sx
