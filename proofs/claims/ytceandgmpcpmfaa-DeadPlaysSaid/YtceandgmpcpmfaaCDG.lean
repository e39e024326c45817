/- Part of a proof: lists that came out are kept. -/
import Derived.Test.YtceandgmpcpmfaaCDC
import Derived.Test.YtceandgmpcpmfaaCKB
namespace Go.Sx
open Go Go.Proofs
set_option maxRecDepth 10000
variable {w0 : World} {H : List Ck}
theorem pages_s {W pc qc c e : Nat} {pa qa a b : Option Addr} {p q : List SIn} {v0 v1 v4 v5 : Value} {n : Int} {xs : List Int} (hx : RSl w0 H a c xs) (hy : RSl w0 H b e xs) (hp : p.length + 1 ≤ 5864062014805) (hq : q.length + 1 ≤ 5864062014805) :
    FnS Try.prog w0 (.hb W 30 [v0, v1, .slice pa p.length pc, .slice qa q.length qc, v4, v5, .int .i64 n] :: ol 47 pa pc p :: ol 47 qa qc q :: H) 25 #[.pointer (some ⟨W, 0, none⟩), .slice a xs.length c, .slice b xs.length e]
      (fun v H' => v = .bool true ∧ ∃ pa' pc' qa' qc' n', H' = .hb W 30 [v0, v1, (.slice pa' (p ++ [(⟨a, c, xs⟩ : SIn)]).length pc'), (.slice qa' (q ++ [(⟨b, e, xs⟩ : SIn)]).length qc'), v4, v5, .int .i64 n'] :: ol 47 pa' pc' (p ++ [⟨a, c, xs⟩]) :: ol 47 qa' qc' (q ++ [⟨b, e, xs⟩]) :: H) := by
  refine fns_enter Try.func25 rfl rfl rfl ?_
  refine sx ?_
  refine s_bsl [(⟨a, c, xs⟩ : SIn)] rfl rfl fun b13 => ?_
  refine sx ?_
  refine s_app (xs := p) ?_
  intro pa' pc'
  refine sx ?_
  refine s_bsl [(⟨b, e, xs⟩ : SIn)] rfl rfl fun b23 => ?_
  refine sx ?_
  refine s_app (xs := q) ?_
  intro qa' qc'
  refine sx ?_
  refine s_yS rfl rfl rfl (y_addw rfl rfl) ?_
  refine sx ?_
  refine s_callV rfl (sameI_s (xs := xs) (ys := xs) (by exact rsl) (by exact rsl)) ?_
  rw [decide_eq_true rfl]
  refine sx ?_
  refine s_ret1 rfl rfl ⟨rfl, pa', pc', qa', qc', _, rfl⟩
theorem lives_s {W pc qc c e : Nat} {pa qa a b : Option Addr} {p q : List SLf} {v0 v1 v2 v3 : Value} {n : Int} {xs : List Lf} (hx : RSl w0 H a c xs) (hy : RSl w0 H b e xs) (hp : p.length + 1 ≤ 5864062014805) (hq : q.length + 1 ≤ 5864062014805) :
    FnS Try.prog w0 (.hb W 30 [v0, v1, v2, v3, .slice pa p.length pc, .slice qa q.length qc, .int .i64 n] :: ol 39 pa pc p :: ol 39 qa qc q :: H) 27 #[.pointer (some ⟨W, 0, none⟩), .slice a xs.length c, .slice b xs.length e]
      (fun v H' => v = .bool true ∧ ∃ pa' pc' qa' qc' n', H' = .hb W 30 [v0, v1, v2, v3, (.slice pa' (p ++ [(⟨a, c, xs⟩ : SLf)]).length pc'), (.slice qa' (q ++ [(⟨b, e, xs⟩ : SLf)]).length qc'), .int .i64 n'] :: ol 39 pa' pc' (p ++ [⟨a, c, xs⟩]) :: ol 39 qa' qc' (q ++ [⟨b, e, xs⟩]) :: H) := by
  refine fns_enter Try.func27 rfl rfl rfl ?_
  refine sx ?_
  refine s_bsl [(⟨a, c, xs⟩ : SLf)] rfl rfl fun b13 => ?_
  refine sx ?_
  refine s_app (xs := p) ?_
  intro pa' pc'
  refine sx ?_
  refine s_bsl [(⟨b, e, xs⟩ : SLf)] rfl rfl fun b23 => ?_
  refine sx ?_
  refine s_app (xs := q) ?_
  intro qa' qc'
  refine sx ?_
  refine s_yS rfl rfl rfl (y_addw rfl rfl) ?_
  refine sx ?_
  refine s_callV rfl (sameL_s (xs := xs) (ys := xs) (by exact rsl) (by exact rsl)) ?_
  rw [decide_eq_true rfl]
  refine sx ?_
  refine s_ret1 rfl rfl ⟨rfl, pa', pc', qa', qc', _, rfl⟩
end Go.Sx
