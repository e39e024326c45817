/- Part of a proof: what came out is kept. -/
import Derived.Test.YtolnmecncilpeaaCBE
namespace Go.Sx
open Go Go.Proofs
set_option maxRecDepth 10000
variable {w0 : World} {H : List Ck}
/-- Children that came out, and what they must be. -/
structure Ot where
  b : Nat
  la : Option Addr
  lc : Nat
  ls : List Kd
  wa : Option Addr
  wc : Nat
  ws : List Kd
def Ot.cells (O : Ot) : List Value := [.slice O.la O.ls.length O.lc, .slice O.wa O.ws.length O.wc]
def Ot.pieces (O : Ot) : List Ck := [.hb O.b 27 O.cells, ol 31 O.la O.lc O.ls, ol 31 O.wa O.wc O.ws]
theorem keep_s {O : Ot} {k q : Kd} (hl : O.ls.length ≤ 1048576 ∧ O.ws.length ≤ 1048576) (hk : RKd w0 H k) (hq : RKd w0 H q) (hd : k.d = q.d) :
    FnS Try.prog w0 (O.pieces ++ H) 15 #[.pointer (some ⟨O.b, 0, none⟩), .agg k.cells.toArray, .agg q.cells.toArray]
      (fun v H' => v = .bool true ∧ ∃ la lc wa wc, H' = Ot.pieces ⟨O.b, la, lc, O.ls ++ [k], wa, wc, O.ws ++ [q]⟩ ++ H) := by
  obtain ⟨B, la, lc, ls, wa, wc, ws⟩ := O
  simp only at hl
  show FnS Try.prog w0 _ _ #[.pointer (some ⟨B, 0, none⟩), .agg k.cells.toArray, .agg q.cells.toArray] _
  refine fns_enter Try.func15 rfl rfl rfl ?_
  refine s_ent (.hb B 27 [.slice la ls.length lc, .slice wa ws.length wc] :: ol 31 la lc ls :: ol 31 wa wc ws :: H) Ent.refl ?_
  refine sx ?_
  refine s_boxA rfl fun b4 => ?_
  refine sx ?_
  refine s_boxA rfl fun b5 => ?_
  refine sx ?_
  refine s_cut (fun _ : Option Addr × Nat => [(0, .pointer (some ⟨B, 0, none⟩)), (4, .pointer (some ⟨b4, 0, none⟩)), (5, .pointer (some ⟨b5, 0, none⟩))]) (fun i => .hb B 27 [.slice i.1 (ls ++ [k]).length i.2, .slice wa ws.length wc] :: ol 31 i.1 i.2 (ls ++ [k]) :: ol 31 wa wc ws :: .hb b5 31 q.cells :: .hb b4 31 k.cells :: H) (fun _ => True) ?_ ?_
  · refine sx ?_; refine s_drH (.hb b5 31 q.cells :: .hb b4 31 k.cells :: H) (.one true 0 (.one true 1 (.one true 2 (.one true 3 (.one true 5 (.alt (.one false 4 (.one false 6 (.one false 7 (.one true 8 (.one true 9 (.one false 10 .nil)))))) (.one false 6 (.one false 4 (.one false 7 (.one true 8 (.one true 9 (.one false 10 .nil)))))))))))) mixed (by kernel_rfl) ?_; refine sx ?_
    refine s_alt ?_ ?_
    · refine s_yA rfl rfl (by exact yy) ?_ (chk_held (by exact ent))
      refine s_bsl [k] rfl rfl fun b13 => ?_
      refine s_app ?_
      intro la' lc'
      refine sx ?_
      exact s_mid (la', lc') trivial
    · refine s_bsl [k] rfl rfl fun b13 => ?_
      refine s_yA rfl rfl (by exact yy) ?_ (chk_held (by exact ent))
      refine s_app ?_
      intro la' lc'
      refine sx ?_
      exact s_mid (la', lc') trivial
  rintro ⟨la', lc'⟩ _
  refine sx ?_
  refine sx ?_; refine s_drH (.hb b5 31 q.cells :: .hb b4 31 k.cells :: H) (.one true 0 (.one true 1 (.one true 2 (.one true 3 (.one true 5 (.alt (.one false 4 (.one false 6 (.one false 7 (.one true 8 (.one true 9 (.one false 10 .nil)))))) (.one false 6 (.one false 4 (.one false 7 (.one true 8 (.one true 9 (.one false 10 .nil)))))))))))) mixed (by kernel_rfl) ?_; refine sx ?_
  refine s_alt ?_ ?_
  · refine s_yA rfl rfl (by exact yy) ?_ (chk_held (by exact ent))
    refine s_bsl [q] rfl rfl fun b23 => ?_
    refine s_app ?_
    intro wa' wc'
    refine sx ?_
    refine s_callV rfl (rsame_t (k := k) (q := q) (by exact rkd) (by exact rkd) hd) ?_
    refine sx ?_
    exact s_ret1 rfl rfl ⟨rfl, la', lc', wa', wc', rfl⟩
  · refine s_bsl [q] rfl rfl fun b23 => ?_
    refine s_yA rfl rfl (by exact yy) ?_ (chk_held (by exact ent))
    refine s_app ?_
    intro wa' wc'
    refine sx ?_
    refine s_callV rfl (rsame_t (k := k) (q := q) (by exact rkd) (by exact rkd) hd) ?_
    refine sx ?_
    exact s_ret1 rfl rfl ⟨rfl, la', lc', wa', wc', rfl⟩
end Go.Sx
