/- Part of a proof: the chapter's example of a node. The law NodeNames. -/
import Derived.Test.YtkcabddbeclokaaCVJ
import Derived.Test.YtkcabddbeclokaaCVI
namespace Go.Sx
open Go Go.Proofs
set_option maxRecDepth 10000
variable {w0 : World} {H : List Ck}
/-- Where the example lies. -/
structure Sm where
  a : Nat
  b : Nat
  c : Nat
  d : Nat
  e : Nat
  f : Nat
  g : Nat
abbrev smM (x : Sm) : Mg := ⟨7, 1, some ⟨x.e, 0, none⟩, 1, [103], none, 0, [], some ⟨x.f, 0, none⟩, 1, [120]⟩
abbrev smN (x : Sm) : Nd := ⟨⟨some ⟨x.a, 0, none⟩, 3, [5, 9, 4], some ⟨x.d, 0, none⟩, 2, [⟨some ⟨x.b, 0, none⟩, 1, [99]⟩, ⟨some ⟨x.c, 0, none⟩, 1, [102]⟩]⟩, some ⟨x.g, 0, none⟩, 1, [smM x]⟩
abbrev smL (x : Sm) : List Ck := [ol 3 (some ⟨x.a, 0, none⟩) 3 ([5, 9, 4] : List Int), ol 25 (some ⟨x.d, 0, none⟩) 2 ([⟨some ⟨x.b, 0, none⟩, 1, [99]⟩, ⟨some ⟨x.c, 0, none⟩, 1, [102]⟩] : List SB), Ck.ro x.b [bv 99], Ck.ro x.c [bv 102], ol 78 (some ⟨x.g, 0, none⟩) 1 [smM x], Ck.ro x.e [bv 103], Ck.ro x.f [bv 120]]
def smO (x : Sm) : Ck := .star (smL x)
def smD : List Int × List Bs := ([5, 9, 4], [[99], [102]])
def smS : List MD := [⟨7, 1, [103], [], [120]⟩]
theorem smN_k (x : Sm) : (smN x).k.d = smD := rfl
theorem smN_m (x : Sm) : (smN x).md = smS := rfl
theorem RNd.sm0 {x : Sm} : RNd w0 (smL x ++ H) (smN x) := by
  refine ⟨⟨RSl.hd, RSl.hd.tl, fun p hp => ?_⟩, ⟨RSl.hd.tl.tl.tl.tl, fun m hm => ?_⟩⟩
  · simp only [List.mem_cons, List.not_mem_nil, or_false] at hp
    rcases hp with rfl | rfl
    · exact (RBy.ro (xs := [99]) rfl (by decide)).tl.tl
    · exact (RBy.ro (xs := [102]) rfl (by decide)).tl.tl.tl
  · rw [List.mem_singleton.1 hm]
    exact ⟨(RBy.ro (xs := [103]) rfl (by decide)).tl.tl.tl.tl.tl, RBy.nil, (RBy.ro (xs := [120]) rfl (by decide)).tl.tl.tl.tl.tl.tl⟩
theorem RNd.sm {x : Sm} : RNd w0 (smO x :: H) (smN x) := RNd.sm0.ent (Ent.open Ent.refl)
theorem sm_chk : chkN 512 smD smS = 0 := by decide +kernel
theorem sm_I (x : Sm) : ∀ p ∈ (smN x).k.ps, I64 p := by
  intro p hp
  simp only [List.mem_cons, List.not_mem_nil, or_false] at hp
  rcases hp with rfl | rfl | rfl <;> (constructor <;> decide)
theorem sm_for : forM smD.2 2 smS = smS := by decide +kernel
theorem sm_oth : othM smD.2 2 smS = [] := by decide +kernel
theorem small_s : FnS Try.prog w0 H 37 #[] (fun v H' => ∃ x : Sm, v = .agg (smN x).cells.toArray ∧ H' = smO x :: H) := by
  refine fns_enter Try.func37 rfl rfl rfl ?_
  refine sx ?_
  refine s_alloc fun b0 => ?_
  refine sx ?_
  refine s_bsl ([5, 9, 4] : List Int) rfl rfl fun b2 => ?_
  refine s_bsl ([99] : Bs) rfl rfl fun b3 => ?_
  refine s_convb rfl (by exact at_) ?_
  refine sx ?_
  refine s_bsl ([102] : Bs) rfl rfl fun b5 => ?_
  refine s_convb rfl (by exact at_) ?_
  refine sx ?_
  refine s_bsl [(⟨some ⟨b3, 0, none⟩, 1, [99]⟩ : SB), ⟨some ⟨b5, 0, none⟩, 1, [102]⟩] rfl rfl fun b7 => ?_
  refine sx ?_
  refine s_rw (t := 8) (v' := .agg (smN ⟨b2, b3, b5, b7, 0, 0, 0⟩).k.cells.toArray) rfl rfl ?_
  refine s_alloc fun b1 => ?_
  refine sx ?_
  refine s_bsl ([103] : Bs) rfl rfl fun b10 => ?_
  refine s_convb rfl (by exact at_) ?_
  refine sx ?_
  refine s_bsl ([120] : Bs) rfl rfl fun b12 => ?_
  refine s_convb rfl (by exact at_) ?_
  refine sx ?_
  refine s_bsl [(smM ⟨b2, b3, b5, b7, b10, b12, 0⟩)] rfl rfl fun b15 => ?_
  refine sx ?_
  refine s_retc rfl rfl (by exact at_) rfl ⟨⟨b2, b3, b5, b7, b10, b12, b15⟩, rfl, rfl⟩ (Ent.star (by exact ent))
set_option maxHeartbeats 1000000 in
theorem nshown_s : FnV Try.prog w0 H 9 #[] (.bool true) := by
  refine fns_enter Try.func9 rfl rfl rfl ?_
  refine sx ?_
  refine s_call rfl small_s ?_
  rintro _ _ ⟨x1, rfl, rfl⟩
  refine ⟨chk_seq, ?_⟩
  refine sx ?_
  refine s_call rfl (nencode_s (n := smN x1) (size := 512) RNd.sm (sm_I x1) (by rw [smN_m]; decide)) ?_
  rintro _ _ ⟨a2, c2, rfl, rfl⟩
  refine ⟨chk_seq, ?_⟩
  have e0 : encNR 512 (smN x1).k.d (smN x1).md = encN smD smS := if_pos sm_chk
  have e1 : chkN 512 (smN x1).k.d (smN x1).md = 0 := sm_chk
  have hlen : (encN smD smS).length ≤ 4294967296 := by decide +kernel
  have hdec : decNE 512 (encN smD smS) = 0 ∧ decND 512 (encN smD smS) = (smD, smS) := decNE_0 ⟨sm_chk, rfl⟩
  rw [e0, e1]
  generalize encN smD smS = bs at hlen hdec ⊢
  refine sx ?_
  refine s_call rfl (ndecode_s (size := 512) (xs := bs) (by exact rby) hlen) ?_
  rintro _ _ ⟨q, rfl, hq, rfl⟩
  rw [hdec.1]
  rw [hdec.2] at hq
  refine ⟨chk_seq, ?_⟩
  refine sx ?_
  refine s_alloc fun b3 => ?_
  refine sx ?_
  refine sx ?_; refine s_drH (.hb b3 39 q.cells :: oN q (ob a2 c2 bs :: smO x1 :: H)) (.one true 0 (.one false 1 (.one false 2 (.one true 3 .nil)))) mixed (by kernel_rfl) ?_; refine sx ?_
  refine s_call rfl small_s ?_
  rintro _ _ ⟨x4, rfl, rfl⟩
  refine ⟨chk_held (by exact ent), ?_⟩
  refine sx ?_
  have hrq : RNd w0 (smO x4 :: .hb b3 39 q.cells :: oN q (ob a2 c2 bs :: smO x1 :: H)) q := RNd.oN.tl.tl
  refine s_callV rfl (nsame_s (n := q) (q := smN x4) hrq RNd.sm) ?_
  have e5 : decide (q.k.d = (smN x4).k.d ∧ q.md = (smN x4).md) = true := by
    injection hq with h1 h2
    rw [decide_eq_true]
    exact ⟨h1, h2⟩
  rw [e5]
  refine sx ?_
  refine s_call rfl small_s ?_
  rintro _ _ ⟨x5, rfl, rfl⟩
  refine ⟨chk_seq, ?_⟩
  refine sx ?_
  refine s_call rfl (ntake_s (n := smN x5) (i := 2) RNd.sm (by show (3 : Nat) ≤ 4294967296; decide) (by show (6 : Nat) ≤ 4294967296; decide) (by rw [smN_m]; decide)) ?_
  rintro _ _ ⟨r, la, lc, ls, e, rfl, rfl, ht⟩
  have hc5 : ¬ ((2 : Int) < 0 ∨ ((smN x5).k.ps.length : Int) ≤ 2) := (by decide : ¬ ((2 : Int) < 0 ∨ ((3 : Nat) : Int) ≤ 2))
  rw [if_neg hc5] at ht
  obtain ⟨rfl, h1, h2, h3⟩ := ht
  rw [show (smN x5).md = smS from rfl, show (smN x5).k.keys = smD.2 from rfl] at h2 h3
  rw [sm_oth] at h2
  rw [sm_for] at h3
  refine ⟨chk_seq, ?_⟩
  obtain ⟨m, rfl, hm⟩ : ∃ m, ls = [m] ∧ m.st = 7 := by
    have hl := congrArg List.length h3
    simp only [List.length_map] at hl
    match ls, hl with
    | [m], _ =>
      have := List.singleton_inj.1 h3
      exact ⟨m, rfl, congrArg MD.st this⟩
  have hr : r.ms = [] := by simpa using h2
  refine s_knL (fun w hs => own_gA (Sat.ownOf (c' := ol 78 la lc [m]) .hd hs) (by show 0 < 1; decide)) fun ⟨ad, hla⟩ => ?_
  subst hla
  obtain ⟨rk, rma, rmc, rms⟩ := r
  simp only at hr
  subst hr
  refine sx ?_
  refine s_alloc fun b6 => ?_
  refine sx ?_
  obtain ⟨mst, mkd, mla, mlc, mlo, mha, mhc, mhi, mva, mvc, mv⟩ := m
  simp only at hm
  subst hm
  refine sx ?_
  refine s_yS rfl rfl rfl (y_index0 rfl rfl (by show 0 < 1; decide)) ?_
  refine sx ?_
  exact s_ret1 rfl rfl ⟨rfl, rfl⟩
theorem nnum_s {n : Int} : FnV Try.prog w0 H 10 #[.int .i64 n] (.int .i64 n) := by
  refine fns_enter Try.func10 rfl rfl rfl ?_
  refine sx ?_
  exact s_ret1 rfl rfl ⟨rfl, rfl⟩
theorem nnames_s : FnV Try.prog w0 H 3 #[] (.bool true) := by
  refine fns_enter Try.func3 rfl rfl rfl ?_
  refine sx ?_
  refine s_callV rfl nshown_s ?_
  refine sx ?_
  refine s_callV rfl nnum_s ?_
  refine sx ?_
  refine s_callV rfl nnum_s ?_
  refine sx ?_
  refine s_callV rfl nnum_s ?_
  refine sx ?_
  refine s_callV rfl nnum_s ?_
  refine sx ?_
  refine s_callV rfl nnum_s ?_
  refine sx ?_
  refine s_callV rfl nnum_s ?_
  refine sx ?_
  refine s_callV rfl nnum_s ?_
  refine sx ?_
  refine s_callV rfl nnum_s ?_
  refine sx ?_
  exact s_ret1 rfl rfl ⟨rfl, rfl⟩
end Go.Sx
