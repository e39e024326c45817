/- Part of a proof: a telling whose memory is a part of some. -/
import Derived.Test.YtpnhoafmlhlfgaaGreatCMBj
namespace Go.Sx
open Go Go.Proofs
set_option maxRecDepth 10000
variable {w0 : World} {H : List Ck}
theorem TellS.frame {P : Program} {o : Bool} {g0 g1 g2 : Ck} {gm : Nat → Ck} {k : Nat} {cap : List Value} {L : List (Bs × Bs)} (h : TellS P w0 o g0 gm g1 g2 k cap L) (R : List Ck) {g0' g1' g2' : Ck} {gm' : Nat → Ck}
    (e0 : ∀ H, Ent (g0' :: H) (g0 :: .star R :: H)) (em : ∀ u H, Ent (gm u :: .star R :: H) (gm' u :: H)) (em' : ∀ u H, Ent (gm' u :: H) (gm u :: .star R :: H))
    (e1 : ∀ H, Ent (g1 :: .star R :: H) (g1' :: H)) (e2 : ∀ H, Ent (g2 :: .star R :: H) (g2' :: H)) : TellS P w0 o g0' gm' g1' g2' k cap L := by
  intro ll φ fin hy K h0
  refine FnS.post (FnS.ent (h ll (fun i K' => ∃ K0, φ i K0 ∧ K' = .star R :: K0) (fun K' => ∃ K0, fin K0 ∧ K' = .star R :: K0) ?_ _ ⟨K, h0, rfl⟩) ?_) ?_
  · rintro i x u K' T E hx ⟨K0, hφ, rfl⟩ hT hr
    refine YldS.post (YldS.ent (hy i x u K0 T E hx hφ hT hr) ?_) ?_
    · refine Ent.head ?_
      refine Ent.open ?_
      show Ent (.star R :: (K0 ++ gm u :: E)) _
      refine Ent.trans (H' := .star R :: .star K0 :: gm u :: E) (Ent.head (Ent.star Ent.refl)) ?_
      refine Ent.trans (H' := .star K0 :: gm u :: .star R :: E) (by exact entq) ?_
      exact Ent.head (em u E)
    · rintro v K' ⟨K2, h2, rfl⟩
      have he : Ent (.star K2 :: gm' u :: E) (.star (.star R :: K2) :: gm u :: E) := by
        refine Ent.trans (Ent.head (em' u E)) ?_
        refine Ent.star ?_
        show Ent _ (.star R :: (K2 ++ gm u :: E))
        refine Ent.trans (H' := .star R :: .star K2 :: gm u :: E) (by exact entq) ?_
        exact Ent.head (Ent.open Ent.refl)
      rcases h2 with ⟨rfl, h2⟩ | ⟨rfl, h2⟩
      · exact ⟨_, ⟨.star R :: K2, .inl ⟨rfl, K2, h2, rfl⟩, rfl⟩, he⟩
      · exact ⟨_, ⟨.star R :: K2, .inr ⟨rfl, K2, h2, rfl⟩, rfl⟩, he⟩
  · refine (e0 _).trans (Ent.head ?_)
    refine Ent.star ?_
    show Ent _ (.star R :: (K ++ []))
    rw [List.append_nil]
    exact Ent.head st_one
  · have hk : ∀ (g g' : Ck) K0, (∀ H, Ent (g :: .star R :: H) (g' :: H)) → Ent [g, .star (.star R :: K0)] [g', .star K0] := by
      intro g g' K0 e
      refine Ent.trans ?_ (e [.star K0])
      refine Ent.head ?_
      refine Ent.open ?_
      show Ent (.star R :: (K0 ++ [])) _
      rw [List.append_nil]
      exact Ent.head st_one'
    rintro v K' ⟨rfl, K2, ⟨⟨K0, h2, rfl⟩, rfl⟩ | ⟨⟨K0, h2, rfl⟩, rfl⟩⟩
    · exact ⟨_, ⟨rfl, K0, .inl ⟨h2, rfl⟩⟩, hk _ _ _ e1⟩
    · exact ⟨_, ⟨rfl, K0, .inr ⟨h2, rfl⟩⟩, hk _ _ _ e2⟩
/-- What tells, and leaves its memory as it was. -/
abbrev TvC (P : Program) (w0 : World) (g : Ck) (v : Value) (L : List (Bs × Bs)) : Prop := TvF P w0 true g (fun _ => g) g g v L
theorem TvC.frame {P : Program} {g g' : Ck} {v : Value} {L : List (Bs × Bs)} (h : TvC P w0 g v L) (R : List Ck) (e : ∀ H, Ent (g' :: H) (g :: .star R :: H)) (e' : ∀ H, Ent (g :: .star R :: H) (g' :: H)) : TvC P w0 g' v L := by
  obtain ⟨k, cap, h1, h2, h3⟩ := h
  exact ⟨k, cap, h1, h2, h3.frame R e (fun _ => e') (fun _ => e) e' e'⟩
theorem TvC.fst {P : Program} {g : Ck} {R : List Ck} {v : Value} {L : List (Bs × Bs)} (h : TvC P w0 g v L) : TvC P w0 (.star (g :: R)) v L :=
  h.frame R (fun _ => Ent.open (Ent.head (Ent.star Ent.refl))) (fun _ => Ent.star (Ent.head (Ent.open Ent.refl)))
theorem TvC.snd {P : Program} {g d : Ck} {R : List Ck} {v : Value} {L : List (Bs × Bs)} (h : TvC P w0 g v L) : TvC P w0 (.star (d :: g :: R)) v L :=
  h.frame (d :: R) (fun _ => Ent.open ((Ent.perm (.swap _ _ _)).trans (Ent.head (Ent.star Ent.refl)))) (fun _ => Ent.star (Ent.trans (Ent.head (Ent.open Ent.refl)) (Ent.perm (.swap _ _ _))))
end Go.Sx

