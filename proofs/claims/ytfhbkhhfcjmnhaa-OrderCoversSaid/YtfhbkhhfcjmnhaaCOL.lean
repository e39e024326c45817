/- Part of a proof: the book: what came out is kept. -/
import Derived.Test.YtfhbkhhfcjmnhaaCOI
import Derived.Test.YtfhbkhhfcjmnhaaCKB
namespace Go.Sx
open Go Go.Proofs
set_option maxRecDepth 10000
variable {w0 : World} {H : List Ck}
/-- A string. -/
structure St where
  xs : Bs
@[reducible] def St.val (s : St) : Value := str s.xs
instance : Cel St := ⟨1, fun x => [x.val], fun _ => rfl, fun _ => rfl, Nat.one_pos⟩
instance : ElT Try.prog 9 St := ⟨trivial⟩
/-- A lot: the book in it; the two lists ahead of it as they may be. -/
structure Ob where
  k : Nat
  p : Value
  q : Value
  la : Option Addr
  lc : Nat
  ls : List SB
  wa : Option Addr
  wc : Nat
  ws : List St
def Ob.cells (B : Ob) : List Value := [B.p, B.q, .slice B.la B.ls.length B.lc, .slice B.wa B.ws.length B.wc]
def Ob.pieces (B : Ob) : List Ck := [.hb B.k 34 B.cells, ol 24 B.la B.lc B.ls, ol 9 B.wa B.wc B.ws, fam 5 B.ls]
abbrev Ob.ck (B : Ob) : Ck := .star B.pieces
theorem Ob.open {B : Ob} : Ent (B.ck :: H) (B.pieces ++ H) := Ent.open Ent.refl
theorem Ob.shut {B : Ob} : Ent (B.pieces ++ H) (B.ck :: H) := Ent.star Ent.refl
theorem hold_s {B : Ob} {a a2 : Option Addr} {c c2 : Nat} {xs ys : Bs} (hl : B.ls.length ≤ 1099511627776 ∧ B.ws.length ≤ 1099511627776) (hy : RBy w0 H a2 c2 ys) :
    FnS Try.prog w0 (ob a c xs :: B.ck :: H) 50 #[.pointer (some ((⟨B.k, 0, none⟩ : Addr).add 2)), .slice a xs.length c, .slice a2 ys.length c2]
      (fun _ H' => ∃ la lc wa wc, H' = Ob.ck { B with la := la, lc := lc, ls := B.ls ++ [⟨a, c, xs⟩], wa := wa, wc := wc, ws := B.ws ++ [⟨ys⟩] } :: H) := by
  obtain ⟨K, p, q, la, lc, ls, wa, wc, ws⟩ := B
  simp only at hl ⊢
  refine fns_enter Try.func50 rfl rfl rfl ?_
  refine s_ent (.hb K 34 [p, q, .slice la ls.length lc, .slice wa ws.length wc] :: ol 24 la lc ls :: ol 9 wa wc ws :: fam 5 ls :: ob a c xs :: H) ?_ ?_
  · refine (Ent.perm (.swap _ _ _)).trans ?_
    refine Ob.open.trans ?_
    exact ent
  refine sx ?_
  refine s_rw (t := 9) (v' := .pointer (some ((⟨K, 0, none⟩ : Addr).add 2))) rfl rfl ?_
  refine sx ?_
  refine s_bsl [(⟨a, c, xs⟩ : SB)] rfl rfl fun b9 => ?_
  refine s_app ?_
  intro la' lc'
  refine sx ?_
  refine s_rw (t := 15) (v' := .pointer (some ((⟨K, 0, none⟩ : Addr).add 2))) rfl rfl ?_
  refine sx ?_
  refine sx ?_; refine s_drH (H) (.one true 0 (.one true 1 (.one true 2 (.one true 3 (.one true 5 (.one true 6 (.alt (.one false 4 (.one false 7 (.one false 8 (.one true 9 (.one true 10 (.one false 11 .nil)))))) (.one false 7 (.one false 4 (.one false 8 (.one true 9 (.one true 10 (.one false 11 .nil))))))))))))) mixed (by kernel_rfl) ?_; refine sx ?_
  refine s_rw (t := 19) (v' := .pointer (some ((⟨K, 0, none⟩ : Addr).add 3))) rfl rfl ?_
  refine s_alt ?_ ?_
  · refine s_yA rfl rfl (by exact yy) ?_ (chk_held (by exact ent))
    refine s_bsl [(⟨ys⟩ : St)] rfl rfl fun b11 => ?_
    refine s_app ?_
    intro wa' wc'
    refine sx ?_
    refine s_rw (t := 26) (v' := .pointer (some ((⟨K, 0, none⟩ : Addr).add 3))) rfl rfl ?_
    refine sx ?_
    refine s_end0 rfl ⟨la', lc', wa', wc', rfl⟩ ?_
    refine Ent.trans ?_ Ob.shut
    refine Ent.cons (by exact rm) ?_
    refine Ent.cons (by exact rm) ?_
    refine Ent.cons (by exact rm) ?_
    refine Ent.famS (by exact rm) (by exact rm) ?_
    exact ent
  · refine s_bsl [(⟨ys⟩ : St)] rfl rfl fun b11 => ?_
    refine s_yA rfl rfl (by exact yy) ?_ (chk_held (by exact ent))
    refine s_app ?_
    intro wa' wc'
    refine sx ?_
    refine s_rw (t := 26) (v' := .pointer (some ((⟨K, 0, none⟩ : Addr).add 3))) rfl rfl ?_
    refine sx ?_
    refine s_end0 rfl ⟨la', lc', wa', wc', rfl⟩ ?_
    refine Ent.trans ?_ Ob.shut
    refine Ent.cons (by exact rm) ?_
    refine Ent.cons (by exact rm) ?_
    refine Ent.cons (by exact rm) ?_
    refine Ent.famS (by exact rm) (by exact rm) ?_
    exact ent
end Go.Sx
