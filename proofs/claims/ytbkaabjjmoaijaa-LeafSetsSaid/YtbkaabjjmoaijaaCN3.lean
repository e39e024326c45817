/- Part of a proof: the book: what came out is kept. -/
import Derived.Test.YtbkaabjjmoaijaaCKB
import Derived.Test.YtbkaabjjmoaijaaCM2
namespace Go.Sx
open Go Go.Proofs
set_option maxRecDepth 10000
variable {w0 : World} {H : List Ck}

/-- A book: its lists, what they were, lists of entries; all its own. -/
structure Bk where
  k : Nat
  la : Option Addr
  lc : Nat
  ls : List SB
  wa : Option Addr
  wc : Nat
  ws : List SB
  ea : Option Addr
  ec : Nat
  fs : List SE
def Bk.cells (B : Bk) : List Value := [.slice B.la B.ls.length B.lc, .slice B.wa B.ws.length B.wc, .slice B.ea B.fs.length B.ec]
def Bk.pieces (B : Bk) : List Ck := [.hb B.k 31 B.cells, ol 39 B.la B.lc B.ls, ol 39 B.wa B.wc B.ws, ol 25 B.ea B.ec B.fs, fam 5 B.ls, fam 5 B.ws, fam 47 B.fs]
abbrev Bk.ck (B : Bk) : Ck := .star B.pieces
theorem Bk.open {B : Bk} : Ent (B.ck :: H) (B.pieces ++ H) := Ent.open Ent.refl
theorem Bk.shut {B : Bk} : Ent (B.pieces ++ H) (B.ck :: H) := Ent.star Ent.refl

theorem keep_s {B : Bk} {a : Option Addr} {c : Nat} {xs : Bs} (hl : B.ls.length ≤ 1099511627776 ∧ B.ws.length ≤ 1099511627776) (hx : xs.length ≤ 4294967296) :
    FnS Try.prog w0 (ob a c xs :: B.ck :: H) 43 #[.pointer (some ⟨B.k, 0, none⟩), .slice a xs.length c]
      (fun _ H' => ∃ la lc wa wc a' c', H' = Bk.ck { B with la := la, lc := lc, ls := B.ls ++ [⟨a, c, xs⟩], wa := wa, wc := wc, ws := B.ws ++ [⟨a', c', xs⟩] } :: H) := by
  refine fns_enter Try.func43 rfl rfl rfl ?_
  refine s_ent (.hb B.k 31 B.cells :: ol 39 B.la B.lc B.ls :: ol 39 B.wa B.wc B.ws :: ol 25 B.ea B.ec B.fs :: fam 5 B.ls :: fam 5 B.ws :: fam 47 B.fs :: ob a c xs :: H) ?_ ?_
  · refine (Ent.perm (.swap _ _ _)).trans ?_
    exact Bk.open
  refine sx ?_
  refine s_bsl [(⟨a, c, xs⟩ : SB)] rfl rfl fun b9 => ?_
  refine s_app ?_
  intro la lc
  refine sx ?_; refine s_drH (ob a c xs :: H) (.one true 0 (.one true 1 (.one true 2 (.one true 3 (.one true 6 (.alt (.one false 4 (.one false 5 (.one false 7 (.one false 8 (.one false 9 (.one true 10 (.one true 11 (.one false 12 .nil)))))))) (.one false 5 (.alt (.one false 4 (.one false 7 (.one false 8 (.one false 9 (.one true 10 (.one true 11 (.one false 12 .nil))))))) (.one false 7 (.alt (.one false 4 (.one false 8 (.one false 9 (.one true 10 (.one true 11 (.one false 12 .nil)))))) (.one false 8 (.one false 4 (.one false 9 (.one true 10 (.one true 11 (.one false 12 .nil)))))))))))))))) mixed (by kernel_rfl) ?_; refine sx ?_
  refine s_alt ?_ ?_
  · refine s_yA rfl rfl (by exact yy) ?_ (chk_held (by exact ent))
    refine s_bsl ([] : List UInt8) rfl rfl fun b10 => ?_
    refine s_app ?_
    intro a' c'
    refine s_bsl [(⟨a', c', xs⟩ : SB)] rfl rfl fun b11 => ?_
    refine s_app ?_
    intro wa wc
    refine sx ?_
    refine s_end0 rfl ⟨la, lc, wa, wc, a', c', rfl⟩ ?_
    refine Ent.trans ?_ Bk.shut
    refine Ent.cons (by exact rm) ?_
    refine Ent.cons (by exact rm) ?_
    refine Ent.cons (by exact rm) ?_
    refine Ent.cons (by exact rm) ?_
    refine Ent.famS (by exact rm) (by exact rm) ?_
    refine Ent.famS (by exact rm) (by exact rm) ?_
    exact ent
  · refine s_bsl ([] : List UInt8) rfl rfl fun b10 => ?_
    refine s_alt ?_ ?_
    · refine s_yA rfl rfl (by exact yy) ?_ (chk_held (by exact ent))
      refine s_app ?_
      intro a' c'
      refine s_bsl [(⟨a', c', xs⟩ : SB)] rfl rfl fun b11 => ?_
      refine s_app ?_
      intro wa wc
      refine sx ?_
      refine s_end0 rfl ⟨la, lc, wa, wc, a', c', rfl⟩ ?_
      refine Ent.trans ?_ Bk.shut
      refine Ent.cons (by exact rm) ?_
      refine Ent.cons (by exact rm) ?_
      refine Ent.cons (by exact rm) ?_
      refine Ent.cons (by exact rm) ?_
      refine Ent.famS (by exact rm) (by exact rm) ?_
      refine Ent.famS (by exact rm) (by exact rm) ?_
      exact ent
    · refine s_app ?_
      intro a' c'
      refine s_alt ?_ ?_
      · refine s_yA rfl rfl (by exact yy) ?_ (chk_held (by exact ent))
        refine s_bsl [(⟨a', c', xs⟩ : SB)] rfl rfl fun b11 => ?_
        refine s_app ?_
        intro wa wc
        refine sx ?_
        refine s_end0 rfl ⟨la, lc, wa, wc, a', c', rfl⟩ ?_
        refine Ent.trans ?_ Bk.shut
        refine Ent.cons (by exact rm) ?_
        refine Ent.cons (by exact rm) ?_
        refine Ent.cons (by exact rm) ?_
        refine Ent.cons (by exact rm) ?_
        refine Ent.famS (by exact rm) (by exact rm) ?_
        refine Ent.famS (by exact rm) (by exact rm) ?_
        exact ent
      · refine s_bsl [(⟨a', c', xs⟩ : SB)] rfl rfl fun b11 => ?_
        refine s_yA rfl rfl (by exact yy) ?_ (chk_held (by exact ent))
        refine s_app ?_
        intro wa wc
        refine sx ?_
        refine s_end0 rfl ⟨la, lc, wa, wc, a', c', rfl⟩ ?_
        refine Ent.trans ?_ Bk.shut
        refine Ent.cons (by exact rm) ?_
        refine Ent.cons (by exact rm) ?_
        refine Ent.cons (by exact rm) ?_
        refine Ent.cons (by exact rm) ?_
        refine Ent.famS (by exact rm) (by exact rm) ?_
        refine Ent.famS (by exact rm) (by exact rm) ?_
        exact ent
end Go.Sx
