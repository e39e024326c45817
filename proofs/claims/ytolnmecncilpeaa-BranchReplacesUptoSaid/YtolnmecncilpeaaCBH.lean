/- Part of a proof: all that came out, side by side. -/
import Derived.Test.YtolnmecncilpeaaCBG
namespace Go.Sx
open Go Go.Proofs
set_option maxRecDepth 10000
variable {w0 : World} {H : List Ck}
/-- A list of numbers, and where it lies. -/
structure SIn where
  a : Option Addr
  c : Nat
  xs : List Int
@[reducible] def SIn.val (s : SIn) : Value := .slice s.a s.xs.length s.c
instance : Cel SIn := ⟨1, fun x => [x.val], fun _ => rfl, fun _ => rfl, Nat.one_pos⟩
instance : Row SIn Int := ⟨SIn.a, SIn.c, SIn.xs⟩
instance : ElT Try.prog 28 SIn := ⟨trivial⟩
def Kd.pI (k : Kd) : SIn := ⟨k.pa, k.pc, k.ps⟩
def Kd.kS (k : Kd) : SSB := ⟨k.ka, k.kc, k.ks⟩
theorem oK_all : ∀ (ls : List Kd), Ent (.star (ls.map oK) :: H) (fam 3 (ls.map Kd.pI) :: fam 23 (ls.map Kd.kS) :: fam 5 (ls.flatMap Kd.ks) :: H)
  | [] => by
    refine Ent.trans (H' := H) (Ent.open Ent.refl) ?_
    exact fam_nil.trans (Ent.head (fam_nil.trans (Ent.head fam_nil)))
  | k :: r => by
    refine Ent.trans (H' := oK k :: .star (r.map oK) :: H) (Ent.open (Ent.head (Ent.star Ent.refl))) ?_
    refine Ent.trans (Ent.head (oK_all r)) ?_
    refine Ent.trans (Ent.open Ent.refl) ?_
    refine Ent.trans (H' := Row.ck 3 k.pI :: fam 3 (r.map Kd.pI) :: Row.ck 23 k.kS :: fam 23 (r.map Kd.kS) :: fam 5 k.ks :: fam 5 (r.flatMap Kd.ks) :: H) (by exact ent) ?_
    refine fam_cons'.trans (Ent.head (fam_cons'.trans (Ent.head ?_)))
    exact fam_app
end Go.Sx
