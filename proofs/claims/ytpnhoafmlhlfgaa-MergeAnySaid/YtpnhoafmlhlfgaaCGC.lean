/- Part of a proof: the parts of a range that none of some others has, walked. -/
import Derived.Test.YtpnhoafmlhlfgaaCGB
import Derived.Test.YtpnhoafmlhlfgaaCOW
namespace Go.Sx
open Go Go.Proofs
set_option maxRecDepth 10000
variable {w0 : World} {H : List Ck}
theorem qk_me {k : Nat} {a b : T3} (h1 : QK k a) (h2 : QK k b) : QK k (meR a b) := by
  unfold meR
  split
  · exact ⟨Nat.zero_le _, Nat.zero_le _⟩
  refine qk_fo ⟨?_, ?_⟩
  · simp only
    split
    · exact h2.1
    · exact h1.1
  · simp only
    split
    · exact h2.2
    · exact h1.2
theorem qk_mi {k : Nat} {a b : T3} (h1 : QK k a) (h2 : QK k b) : QK k (miR a b).1 ∧ QK k (miR a b).2 := by
  unfold miR
  split
  · exact ⟨qk_fo h1, ⟨Nat.zero_le _, Nat.zero_le _⟩⟩
  · refine ⟨qk_me h1 ⟨Nat.zero_le _, h2.1⟩, ?_⟩
    simp only
    split
    · exact ⟨Nat.zero_le _, Nat.zero_le _⟩
    · exact qk_me h1 ⟨h2.2, Nat.zero_le _⟩
structure WoI where
  j : Nat
  rc : Rg
  a : Option Addr
  c : Nat
  out : List Rg
  L : List Ck
set_option maxHeartbeats 2000000 in
theorem without_s {r : Rg} {a : Option Addr} {c : Nat} {os : List Rg} (hr : RRg w0 H r) (ho : RSl w0 H a c os) (hor : ∀ o ∈ os, RRg w0 H o) (hn : os.length ≤ 1099511627776) (lr : Lr r) (lo : ∀ o ∈ os, Lr o) :
    FnS Try.prog w0 H 55 #[.agg r.cells.toArray, .slice a os.length c] (fun v H' => ∃ a' c' ps L, v = .slice a' (ps : List Rg).length c' ∧ H' = .star L :: H ∧ ps.map Rg.d = woR r.d (os.map Rg.d) ∧ ps.length ≤ os.length + 1 ∧ (∀ H0, RSl w0 (.star L :: H0) a' c' ps) ∧ ∀ H0, RRg w0 H0 r → ∀ p ∈ ps, RRg w0 (.star L :: H0) p) := by
  refine fns_enter Try.func55 rfl rfl rfl ?_
  refine sx ?_
  refine s_boxA rfl fun b2 => ?_
  refine sx ?_
  refine s_loop (fun i : WoI => [(2, .pointer (some ⟨b2, 0, none⟩)), (5, .slice i.a i.out.length i.c), (10, .slice a os.length c), (11, .int .i64 os.length), (12, .int .i64 i.j)]) (fun i => .hb b2 82 i.rc.cells :: ol 82 i.a i.c i.out :: .star i.L :: H)
    (fun i => i.j ≤ os.length ∧ i.out.length ≤ i.j ∧ woR r.d (os.map Rg.d) = i.out.map Rg.d ++ woR i.rc.d ((os.drop i.j).map Rg.d) ∧ (∀ H0, RRg w0 H0 r → RRg w0 (.star i.L :: H0) i.rc) ∧ (∀ H0, RRg w0 H0 r → ∀ p ∈ i.out, RRg w0 (.star i.L :: H0) p) ∧ Lr i.rc) (fun i => os.length - i.j) ⟨0, r, none, 0, [], []⟩ ⟨Nat.zero_le _, Nat.zero_le _, rfl, fun H0 h => h.tl, fun H0 _ p h => (by cases h), lr⟩ ?_ (he := by
      refine Ent.head ?_
      exact Ent.nilS.trans (Ent.head Ent.star0))
  rintro ⟨j, rc, a5, c5, out, L⟩ ⟨hj, hol, hwo, hrG, hoG, hlr⟩
  simp only at hj hol hwo hrG hoG hlr ⊢
  have hrc := hrG H hr
  refine sx ?_
  refine s_if rfl (fun t1 => ?_) (fun t1 => ?_)
  · have t1 : (j : Int) < (os.length : Int) := t1
    obtain ⟨o, hoj⟩ := get_lt os j (by omega)
    have hom := List.mem_of_getElem? hoj
    have hlo := lo o hom
    have ho2 : RSl w0 (.hb b2 82 rc.cells :: ol 82 a5 c5 out :: .star L :: H) a c os := ho.tl.tl.tl
    rw [dropG hoj, List.map_cons] at hwo
    refine sx ?_
    refine s_alloc fun b7 => ?_
    refine sx ?_
    refine s_call rfl (omeet_s (r := rc) (q := o) hrc.tl.tl.tl (hor o hom).tl.tl.tl.tl hlr hlo) ?_
    rintro _ _ ⟨x, rfl, hxd, rfl⟩
    refine ⟨chk_seq, ?_⟩
    refine s_callV rfl (oempty_s (r := x) (by exact rrg)) ?_
    rw [hxd]
    refine sx ?_
    refine s_cond rfl (fun t2 => ?_) (fun t2 => ?_)
    · refine sx ?_
      refine s_again ⟨j + 1, rc, a5, c5, out, L⟩ ⟨by simp only; omega, by simp only; omega, ?_, hrG, hoG, hlr⟩ (by simp only; omega) (he := by exact entq)
      simp only
      rw [hwo, woR, if_pos t2]
    · refine sx ?_
      refine s_call rfl (ominus_s (r := rc) (q := o) hrc.tl.tl.tl.tl (hor o hom).tl.tl.tl.tl.tl hlr hlo) ?_
      rintro _ _ ⟨y, z, rfl, hyd, hzd, rfl⟩
      refine ⟨chk_seq, ?_⟩
      refine sx ?_
      refine s_alloc fun b8 => ?_
      refine sx ?_
      refine s_alloc fun b9 => ?_
      refine sx ?_
      have ry : RRg w0 (.hb b9 82 z.cells :: .hb b8 82 y.cells :: oR y :: oR z :: oR x :: .hb b7 82 o.cells :: .hb b2 82 rc.cells :: ol 82 a5 c5 out :: .star L :: H) y := RRg.oR.tl.tl
      refine s_callV rfl (oempty_s (r := y) ry) ?_
      rw [hyd]
      have hm := qk_mi (k := 140737488355328) (a := rc.d) (b := o.d) hlr hlo
      rw [← hzd] at hm
      have eL : ∀ H0, Ent (.star (oR y :: oR z :: L) :: H0) (.star L :: H0) := fun H0 => Ent.open (Ent.tl (Ent.tl (Ent.star Ent.refl)))
      have hz : ∀ H0, RRg w0 H0 r → RRg w0 (.star (oR y :: oR z :: L) :: H0) z := fun H0 _ => RRg.ent (RRg.oR (r := z) (H := L ++ H0)) (Ent.open (Ent.tl Ent.refl))
      have hy : ∀ H0, RRg w0 (.star (oR y :: oR z :: L) :: H0) y := fun H0 => RRg.ent (RRg.oR (r := y) (H := oR z :: (L ++ H0))) (Ent.open Ent.refl)
      refine sx ?_
      refine s_cond rfl (fun t3 => ?_) (fun t3 => ?_)
      · have t3' : ¬ emR (miR rc.d o.d).1 = true := by simpa using t3
        refine sx ?_
        refine s_bsl [y] rfl rfl fun b31 => ?_
        refine sx ?_
        refine s_app ?_ (hby := by simp only [List.length_cons, List.length_nil]; omega)
        intro a6 c6
        refine sx ?_
        refine s_again ⟨j + 1, z, a6, c6, out ++ [y], oR y :: oR z :: L⟩ ⟨by simp only; omega, by simp only [List.length_append, List.length_cons, List.length_nil]; omega, ?_, hz, fun H0 h0 p hp => ?_, hm.2⟩ (by simp only; omega) (he := ?_)
        · simp only
          rw [hwo, woR, if_neg (by rw [t2]; decide), if_neg t3', List.map_append, ← hzd, ← hyd]
          simp
        · simp only at hp ⊢
          rcases List.mem_append.1 hp with hp | hp
          · exact RRg.ent (hoG H0 h0 p hp) (eL H0)
          · rw [List.mem_singleton.1 hp]; exact hy H0
        · simp only
          refine Ent.trans (H' := .hb b2 82 z.cells :: ol 82 a6 c6 (out ++ [y]) :: oR y :: oR z :: .star L :: H) (by first | exact entq | exact ent) ?_
          exact Ent.head (Ent.head (Ent.star (Ent.head (Ent.head (Ent.open Ent.refl)))))
      · have t3' : emR (miR rc.d o.d).1 = true := by simpa using t3
        refine sx ?_
        refine s_again ⟨j + 1, z, a5, c5, out, oR y :: oR z :: L⟩ ⟨by simp only; omega, by simp only; omega, ?_, hz, fun H0 h0 p hp => RRg.ent (hoG H0 h0 p hp) (eL H0), hm.2⟩ (by simp only; omega) (he := ?_)
        · simp only
          rw [hwo, woR, if_neg (by rw [t2]; decide), if_pos t3', ← hzd]
          simp
        · simp only
          refine Ent.trans (H' := .hb b2 82 z.cells :: ol 82 a5 c5 out :: oR y :: oR z :: .star L :: H) (by first | exact entq | exact ent) ?_
          exact Ent.head (Ent.head (Ent.star (Ent.head (Ent.head (Ent.open Ent.refl)))))
  have t1 : ¬ (j : Int) < (os.length : Int) := t1
  obtain rfl : j = os.length := by omega
  rw [List.drop_length, List.map_nil, woR] at hwo
  refine sx ?_
  refine s_callV rfl (oempty_s (r := rc) hrc.tl.tl) ?_
  refine sx ?_
  have eL : ∀ (a6 : Option Addr) (c6 : Nat) (o6 : List Rg) H0, Ent (.star (ol 82 a6 c6 o6 :: L) :: H0) (.star L :: H0) := fun a6 c6 o6 H0 => Ent.open (Ent.tl (Ent.star Ent.refl))
  refine s_cond rfl (fun t3 => ?_) (fun t3 => ?_)
  · have t3' : ¬ emR rc.d = true := by simpa using t3
    rw [if_neg t3'] at hwo
    refine sx ?_
    refine s_bsl [rc] rfl rfl fun b31 => ?_
    refine sx ?_
    refine s_app ?_ (hby := by simp only [List.length_cons, List.length_nil]; omega)
    intro a6 c6
    refine sx ?_
    refine s_ret1 rfl rfl ⟨a6, c6, out ++ [rc], ol 82 a6 c6 (out ++ [rc]) :: L, rfl, rfl, by rw [hwo, List.map_append]; rfl, by simp only [List.length_append, List.length_cons, List.length_nil]; omega, fun H0 => RSl.ent (RSl.hd (H := L ++ H0) (E := 82)) (Ent.open Ent.refl), fun H0 h0 p hp => ?_⟩ ?_
    · rcases List.mem_append.1 hp with hp | hp
      · exact RRg.ent (hoG H0 h0 p hp) (eL _ _ _ _)
      · rw [List.mem_singleton.1 hp]; exact RRg.ent (hrG H0 h0) (eL _ _ _ _)
    · refine Ent.trans (H' := ol 82 a6 c6 (out ++ [rc]) :: .star L :: H) (by exact entq) ?_
      exact Ent.star (Ent.head (Ent.open Ent.refl))
  · have t3' : emR rc.d = true := by simpa using t3
    rw [if_pos t3', List.append_nil] at hwo
    refine sx ?_
    refine s_ret1 rfl rfl ⟨a5, c5, out, ol 82 a5 c5 out :: L, rfl, rfl, hwo.symm, by omega, fun H0 => RSl.ent (RSl.hd (H := L ++ H0) (E := 82)) (Ent.open Ent.refl), fun H0 h0 p hp => RRg.ent (hoG H0 h0 p hp) (eL _ _ _ _)⟩ ?_
    refine Ent.trans (H' := ol 82 a5 c5 out :: .star L :: H) (by exact entq) ?_
    exact Ent.star (Ent.head (Ent.open Ent.refl))
end Go.Sx
