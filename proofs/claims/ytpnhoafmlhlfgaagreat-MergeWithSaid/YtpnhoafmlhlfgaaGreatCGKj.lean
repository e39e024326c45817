/- Part of a proof: several parts of a walk, one behind the other. -/
import Derived.Test.YtpnhoafmlhlfgaaGreatCMBj
import Derived.Test.YtpnhoafmlhlfgaaGreatCGIj
namespace Go.Sx
open Go Go.Proofs
set_option maxRecDepth 10000
variable {w0 : World} {H : List Ck}
theorem TellS.frame {P : Program} {o : Bool} {g0 g1 g2 : Ck} {gm : Nat → Ck} {k : Nat} {cap : List Value} {L : List (Bs × Bs)} (h : TellS P w0 o g0 gm g1 g2 k cap L) (R : List Ck) {g0' g1' g2' : Ck} {gm' : Nat → Ck}
    (e0 : ∀ H, Ent (g0' :: H) (g0 :: .star R :: H)) (em : ∀ u H, Ent (gm u :: .star R :: H) (gm' u :: H)) (em' : ∀ u H, Ent (gm' u :: H) (gm u :: .star R :: H))
    (e1 : ∀ H, Ent (g1 :: .star R :: H) (g1' :: H)) (e2 : ∀ H, Ent (g2 :: .star R :: H) (g2' :: H)) : TellS P w0 o g0' gm' g1' g2' k cap L := by
  intro ll φ fin hy K h0
  refine FnS.post (FnS.ent (h ll (fun i K' => ∃ K0, φ i K0 ∧ K' = .star R :: K0) (fun K' => ∃ K0, fin K0 ∧ K' = .star R :: K0) ?_ _ ⟨K, h0, rfl⟩) ?_) ?_
  · rintro i x u K' T E hx ⟨K0, hφ, rfl⟩ hT hr
    refine YldS.post (YldS.ent (hy i x u K0 T E hx hφ hT hr) ?_) ?_
    · refine Ent.head ?_
      refine Ent.open ?_
      show Ent (.star R :: (K0 ++ gm u :: E)) _
      refine Ent.trans (H' := .star R :: .star K0 :: gm u :: E) (Ent.head (Ent.star Ent.refl)) ?_
      refine Ent.trans (H' := .star K0 :: gm u :: .star R :: E) (by exact entq) ?_
      exact Ent.head (em u E)
    · rintro v K' ⟨K2, h2, rfl⟩
      have he : Ent (.star K2 :: gm' u :: E) (.star (.star R :: K2) :: gm u :: E) := by
        refine Ent.trans (Ent.head (em' u E)) ?_
        refine Ent.star ?_
        show Ent _ (.star R :: (K2 ++ gm u :: E))
        refine Ent.trans (H' := .star R :: .star K2 :: gm u :: E) (by exact entq) ?_
        exact Ent.head (Ent.open Ent.refl)
      rcases h2 with ⟨rfl, h2⟩ | ⟨rfl, h2⟩
      · exact ⟨_, ⟨.star R :: K2, .inl ⟨rfl, K2, h2, rfl⟩, rfl⟩, he⟩
      · exact ⟨_, ⟨.star R :: K2, .inr ⟨rfl, K2, h2, rfl⟩, rfl⟩, he⟩
  · refine (e0 _).trans (Ent.head ?_)
    refine Ent.star ?_
    show Ent _ (.star R :: (K ++ []))
    rw [List.append_nil]
    exact Ent.head st_one
  · have hk : ∀ (g g' : Ck) K0, (∀ H, Ent (g :: .star R :: H) (g' :: H)) → Ent [g, .star (.star R :: K0)] [g', .star K0] := by
      intro g g' K0 e
      refine Ent.trans ?_ (e [.star K0])
      refine Ent.head ?_
      refine Ent.open ?_
      show Ent (.star R :: (K0 ++ [])) _
      rw [List.append_nil]
      exact Ent.head st_one'
    rintro v K' ⟨rfl, K2, ⟨⟨K0, h2, rfl⟩, rfl⟩ | ⟨⟨K0, h2, rfl⟩, rfl⟩⟩
    · exact ⟨_, ⟨rfl, K0, .inl ⟨h2, rfl⟩⟩, hk _ _ _ e1⟩
    · exact ⟨_, ⟨rfl, K0, .inr ⟨h2, rfl⟩⟩, hk _ _ _ e2⟩
/-- What tells, and leaves its memory as it was. -/
abbrev TvC (P : Program) (w0 : World) (g : Ck) (v : Value) (L : List (Bs × Bs)) : Prop := TvF P w0 true g (fun _ => g) g g v L
theorem TvC.frame {P : Program} {g g' : Ck} {v : Value} {L : List (Bs × Bs)} (h : TvC P w0 g v L) (R : List Ck) (e : ∀ H, Ent (g' :: H) (g :: .star R :: H)) (e' : ∀ H, Ent (g :: .star R :: H) (g' :: H)) : TvC P w0 g' v L := by
  obtain ⟨k, cap, h1, h2, h3⟩ := h
  exact ⟨k, cap, h1, h2, h3.frame R e (fun _ => e') (fun _ => e) e' e'⟩
theorem TvC.fst {P : Program} {g : Ck} {R : List Ck} {v : Value} {L : List (Bs × Bs)} (h : TvC P w0 g v L) : TvC P w0 (.star (g :: R)) v L :=
  h.frame R (fun _ => Ent.open (Ent.head (Ent.star Ent.refl))) (fun _ => Ent.star (Ent.head (Ent.open Ent.refl)))
theorem TvC.snd {P : Program} {g d : Ck} {R : List Ck} {v : Value} {L : List (Bs × Bs)} (h : TvC P w0 g v L) : TvC P w0 (.star (d :: g :: R)) v L :=
  h.frame (d :: R) (fun _ => Ent.open ((Ent.perm (.swap _ _ _)).trans (Ent.head (Ent.star Ent.refl)))) (fun _ => Ent.star (Ent.trans (Ent.head (Ent.open Ent.refl)) (Ent.perm (.swap _ _ _))))
end Go.Sx
namespace Go.Sx
open Go
abbrev x1 : MD := ⟨1, 3, [97], [102], []⟩
abbrev x2 : MD := ⟨2, 1, [99], [], [120]⟩
abbrev x3 : MD := ⟨3, 2, [107], [], []⟩
abbrev rK : T3 := ([107], [107, 0], false)
abbrev rC : T3 := ([99], [99, 0], false)
abbrev rA : T3 := ([97], [102], false)
theorem cv_of {l rs c : List T3} (hp : rs.Perm ((l.filter fun d => !emR d).map foR)) (hs : LoS rs) (e : rs.foldl cvP [] = c) : IsCv l c := e ▸ cvP_is hp hs
theorem ex_cv1 : IsCv ([] ++ [saidR x3]) [rK] := cv_of (rs := [rK]) (by decide) (by decide) (by decide)
theorem ex_cv2 : IsCv ([rK] ++ [saidR x2]) [rC, rK] := cv_of (rs := [rC, rK]) (by decide) (by decide) (by decide)
theorem ex_cv3 : IsCv ([rC, rK] ++ [saidR x1]) [rA, rK] := cv_of (rs := [rA, rC, rK]) (by decide) (by decide) (by decide)
theorem ex_cv4 : IsCv [rK, ([97], [99], false), ([99, 0], [102], false)] [([97], [99], false), ([99, 0], [102], false), rK] := cv_of (rs := [([97], [99], false), ([99, 0], [102], false), rK]) (by decide) (by decide) (by decide)
abbrev exP : List PD := [⟨false, [], [], ([97], [99], false)⟩, ⟨true, [99], [120], t30⟩, ⟨false, [], [], ([99, 0], [102], false)⟩, ⟨false, [], [], rK⟩]
theorem ex_st : MnSt [x1, x2, x3] [rA, rK] [rK, ([97], [99], false), ([99, 0], [102], false)] [⟨true, [99], [120], t30⟩] := by
  have h1 := MnSt.nil.gone (m := x3) (by decide) ex_cv1
  rw [show ([] : List T3) ++ woR (saidR x3) [] = [rK] by decide] at h1
  have h2 := h1.put (m := x2) (by decide) rfl ex_cv2
  have h3 := h2.gone (m := x1) (by decide) ex_cv3
  rw [show [rK] ++ woR (saidR x1) [rC, rK] = [rK, ([97], [99], false), ([99, 0], [102], false)] by decide] at h3
  exact h3
theorem ex_mean : IsMean [x1, x2, x3] exP := mean_of ex_st ex_cv4 (by decide) (by decide)
end Go.Sx
