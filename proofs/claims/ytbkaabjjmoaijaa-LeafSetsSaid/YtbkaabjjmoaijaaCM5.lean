/- Part of a proof: the law LeafSplits, walked. -/
import Derived.Test.YtbkaabjjmoaijaaCM3
import Derived.Test.YtbkaabjjmoaijaaCM4
namespace Go.Sx
open Go Go.Proofs
set_option maxRecDepth 10000
variable {w0 : World} {H : List Ck}
abbrev Hz (es : List KV) : Prop := ∀ e, e ∈ es → e.k.length ≤ 140737488351232 ∧ e.v.length ≤ 140737488351232
theorem splits_s {a : Option Addr} {c : Nat} {es : List KV} (he : REn w0 H a c es) (hz : Hz es) {size : Int} (hs : I64 size) :
    FnV Try.prog w0 H 8 #[.int .i64 size, .slice a es.length c] (.bool true) := by
  refine fns_enter Try.func8 rfl rfl rfl ?_
  refine sx ?_
  refine s_callV rfl shown_s ?_
  refine sx ?_
  refine s_callV rfl (weight_s (by exact ren) hz) ?_
  refine sx ?_
  refine s_if rfl (fun hw => ?_) (fun hw => ?_)
  · refine sx ?_
    exact s_ret1 rfl rfl ⟨rfl, rfl⟩
  have hwt := (wB_le 0 (es.map KV.p)).1 (by omega)
  have hS : Small (es.map KV.p) := by simp only [Small]; omega
  refine sx ?_
  refine s_call rfl (lend_c (by exact ren) hS) ?_
  rintro _ _ ⟨L, rfl, hp, rfl⟩
  refine ⟨chk_seq, ?_⟩
  have hn : L.fs.length = es.length := by simpa using congrArg List.length hp
  have r4 : REn w0 (.star L.cs :: H) L.la L.lc L.fs := Ln.ren Ent.starOf
  have hS' : Small (L.fs.map KV.p) := by rw [hp]; exact hS
  have hlc : Kn w0 (.star L.cs :: H) (L.fs.length ≤ L.lc ∧ L.lc ≤ maxLen) := Kn.en r4
  refine s_alloc fun b6 => ?_
  refine s_knL (Kn.tl hlc) fun l1 => ?_
  refine sx ?_
  refine s_rw (t := 27) (v' := .slice L.la L.fs.length L.lc) rfl (by rw [hn]) ?_
  refine s_callV rfl (lsplit_s (by exact ren) hS' hs) ?_
  refine sx ?_
  refine s_rw (t := 37) (v' := .slice L.la L.fs.length L.lc) rfl (by rw [hn]) ?_
  refine s_callV rfl (lsplit_s (by exact ren) hS' hs) ?_
  refine sx ?_
  refine s_callV rfl (rsplit_s (by exact ren) hS hs) ?_
  refine sx ?_
  refine s_callV rfl (stays_s (by exact stE) (by exact ren) hp) ?_
  rw [hp]
  refine sx ?_
  refine s_ret1 rfl rfl ⟨?_, rfl⟩
  simp
end Go.Sx
