/- Part of a proof: the law DeadPlays, walked. -/
import Derived.Test.YtceandgmpcpmfaaCDJ
namespace Go.Sx
open Go Go.Proofs
set_option maxRecDepth 10000
variable {w0 : World} {H : List Ck}
@[reducible] def DW.zero : DW := ⟨none, 0, none, 0, [], none, 0, [], none, 0, [], none, 0, [], none, 0, [], 0⟩
theorem DW.zero_ok : DW.zero.Ok 0 := ⟨fun _ h => (by cases h), rfl, rfl, fun _ h => (by cases h), fun _ h => (by cases h)⟩
theorem dW_zero {W : Nat} : Ent (.hb W 30 [.slice none 0 0, .slice none 0 0, .slice none 0 0, .slice none 0 0, .slice none 0 0, .slice none 0 0, .int .i64 0] :: H) (dW W DW.zero H) := by
  unfold dW
  refine Ent.head ?_
  refine Ent.trans (H' := stars oDL ([] : List DL) :: H) stars_nil ?_
  refine Ent.star (Ent.addNil (Ent.addNil ?_))
  refine Ent.star (Ent.addNil (Ent.addNil (Ent.addStar (Ent.addStar ?_))))
  refine Ent.star (Ent.addNil (Ent.addNil (Ent.addStar (Ent.addStar ?_))))
  exact Ent.refl
set_option maxHeartbeats 4000000 in
theorem plays_law {a : Option Addr} {c : Nat} {l : List DOp} (hx : RSl w0 H a c l) (hl : l.length ≤ 1954687338211) (hg : ∀ o ∈ l, RSl w0 H o.sa o.sc o.ss ∧ o.ss.length ≤ 17592186043904 ∧ -9223372036854775808 ≤ o.on ∧ o.on ≤ 9223372036854775807) :
    FnV Try.prog w0 H 4 #[.slice a l.length c] (.bool true) := by
  refine fns_enter Try.func4 rfl rfl rfl ?_
  refine sx ?_
  refine s_callV rfl awake_s ?_
  refine sx ?_
  refine s_boxA (cs := [.slice none 0 0, .slice none 0 0, .slice none 0 0, .slice none 0 0, .slice none 0 0, .slice none 0 0, .int .i64 0]) rfl fun W => ?_
  refine s_entL (dW W DW.zero H) dW_zero ?_
  refine sx ?_
  refine s_call rfl (step_s (o := (⟨1, 0, ⟨0, 0, 0⟩, none, 0, [], 0⟩ : DOp)) DW.zero_ok (fun h => absurd rfl h) (by omega) (by decide) (by decide) RSl.nil (by decide) (by decide)) ?_
  rintro _ _ ⟨rfl, S1, h1, h2, -, rfl⟩
  obtain ⟨h2, h3⟩ := h2 rfl
  refine ⟨chk_seq, ?_⟩
  refine sx ?_
  refine s_cutB (ι := DW) (fun _ => [(3, .bool true), (4, .pointer (some ⟨W, 0, none⟩)), (5, .bool true)]) (fun S => dW W S H) (fun S => S.Ok (l.length + 1) ∧ S.ls ≠ [] ∧ S.out + 2 * S.ls.length ≤ 2 * l.length + 2) ?_ ?_
  · refine s_loop (fun m : Nat × DW => [(0, .slice a l.length c), (3, .bool true), (4, .pointer (some ⟨W, 0, none⟩)), (5, .bool true), (6, .int .i64 m.1)]) (fun m => dW W m.2 H) (fun m => m.1 ≤ l.length ∧ m.2.Ok (m.1 + 1) ∧ m.2.ls ≠ [] ∧ m.2.out + 2 * m.2.ls.length ≤ 2 * m.1 + 2) (fun m => l.length - m.1) (0, S1) ⟨Nat.zero_le _, h1, ?_, ?_⟩ ?_
    · intro e
      rw [e] at h2
      cases h2
    · rw [h2, h3]; exact Nat.le_refl _
    rintro ⟨i, S⟩ ⟨hi, hS, hne, hm⟩
    simp only at hi hS hne hm ⊢
    have hend : S.Ok (l.length + 1) ∧ S.ls ≠ [] ∧ S.out + 2 * S.ls.length ≤ 2 * l.length + 2 := ⟨⟨fun L h => ⟨(hS.srt L h).1, by have := (hS.srt L h).2; omega⟩, hS.pq, hS.xy, fun s h => by have := hS.rp s h; omega, fun s h => by have := hS.rx s h; omega⟩, hne, by omega⟩
    refine sx ?_
    refine s_lif rfl (fun t1 => ?_) (fun t1 => ?_)
    · refine sx ?_
      refine s_if rfl (fun t2 => ?_) (fun t2 => ?_)
      · obtain ⟨o, ho⟩ := get_lt l i (by omega)
        obtain ⟨g1, g2, g3⟩ := hg o (List.mem_of_getElem? ho)
        refine sx ?_
        refine s_call rfl (step_s (o := o) (S := S) hS (fun _ => hne) (by omega) (by omega) (by omega) g1 g2 g3) ?_
        rintro _ _ ⟨rfl, S2, k1, k2, k3, rfl⟩
        refine ⟨chk_seq, ?_⟩
        have hk : S2.ls ≠ [] ∧ S2.out + 2 * S2.ls.length ≤ 2 * (i + 1) + 2 := by
          by_cases hk : o.k = 1
          · obtain ⟨q1, q2⟩ := k2 hk
            exact ⟨fun e => (by rw [e] at q1; cases q1), by omega⟩
          · obtain ⟨q1, q2⟩ := k3 hk
            exact ⟨fun e => hne (List.eq_nil_of_length_eq_zero (by rw [← q1, e]; rfl)), by omega⟩
        refine sx ?_
        exact s_again (i + 1, S2) ⟨by simp only; omega, k1, hk.1, hk.2⟩ (by simp only; omega) (he := Ent.refl)
      · refine sx ?_
        exact s_mid S hend (he := Ent.refl)
    · refine sx ?_
      exact s_mid S hend (he := Ent.refl)
  rintro S ⟨hS, hne, hm⟩
  refine sx ?_
  refine s_loop (fun m : Nat × DW => [(3, .bool true), (4, .pointer (some ⟨W, 0, none⟩)), (5, .bool true), (7, .int .i64 m.1)]) (fun m => dW W m.2 H) (fun m => m.1 ≤ S.ls.length ∧ m.2.Ok (l.length + 1 + m.1) ∧ m.2.ls.length = S.ls.length ∧ m.2.out ≤ S.out + 2 * m.1) (fun m => S.ls.length - m.1) (0, S) ⟨Nat.zero_le _, hS, rfl, Nat.le_refl _⟩ ?_
  rintro ⟨i, T⟩ ⟨hi, hT, hTl, hTo⟩
  simp only at hi hT hTl hTo ⊢
  refine sx ?_
  refine s_lif rfl (fun t1 => ?_) (fun t1 => ?_)
  · rw [List.length_map] at t1
    refine sx ?_
    refine s_call rfl (step_s (o := (⟨5, i, ⟨0, 0, 0⟩, none, 0, [], 0⟩ : DOp)) (S := T) hT (fun _ e => by rw [e] at hTl; exact hne (List.eq_nil_of_length_eq_zero hTl.symm)) (by omega) (by omega) (by omega) RSl.nil (Nat.zero_le _) (by simp only; omega)) ?_
    rintro _ _ ⟨rfl, T2, k1, -, k3, rfl⟩
    obtain ⟨q1, q2⟩ := k3 (show (5 : Int) ≠ 1 by decide)
    refine ⟨chk_seq, ?_⟩
    refine sx ?_
    exact s_again (i + 1, T2) ⟨by simp only; omega, k1, by simp only; omega, by simp only; omega⟩ (by simp only; omega) (he := Ent.refl)
  · rw [List.length_map] at t1
    obtain rfl : i = S.ls.length := by omega
    refine sx ?_
    refine s_call rfl (ends_s hT (by omega) (by omega)) ?_
    rintro _ _ ⟨rfl, rfl⟩
    refine ⟨chk_seq, ?_⟩
    refine sx ?_
    exact s_ret1 rfl rfl ⟨rfl, rfl⟩
end Go.Sx
