/- Part of a proof: several parts of a walk, one behind the other. -/
import Derived.Test.YtkcabddbeclokaaGreatCVJ
import Derived.Test.YtkcabddbeclokaaGreatCVI
import Derived.Test.YtkcabddbeclokaaGreatCVL
import Derived.Test.YtkcabddbeclokaaGreatCW5
import Derived.Test.YtkcabddbeclokaaGreatCW4j
namespace Go.Sx
open Go Go.Proofs
set_option maxRecDepth 10000
variable {w0 : World} {H : List Ck}
/-- Where the example lies. -/
structure Sm where
  a : Nat
  b : Nat
  c : Nat
  d : Nat
  e : Nat
  f : Nat
  g : Nat
abbrev smM (x : Sm) : Mg := ⟨7, 1, some ⟨x.e, 0, none⟩, 1, [103], none, 0, [], some ⟨x.f, 0, none⟩, 1, [120]⟩
abbrev smN (x : Sm) : Nd := ⟨⟨some ⟨x.a, 0, none⟩, 3, [5, 9, 4], some ⟨x.d, 0, none⟩, 2, [⟨some ⟨x.b, 0, none⟩, 1, [99]⟩, ⟨some ⟨x.c, 0, none⟩, 1, [102]⟩]⟩, some ⟨x.g, 0, none⟩, 1, [smM x]⟩
abbrev smL (x : Sm) : List Ck := [ol 3 (some ⟨x.a, 0, none⟩) 3 ([5, 9, 4] : List Int), ol 44 (some ⟨x.d, 0, none⟩) 2 ([⟨some ⟨x.b, 0, none⟩, 1, [99]⟩, ⟨some ⟨x.c, 0, none⟩, 1, [102]⟩] : List SB), Ck.ro x.b [bv 99], Ck.ro x.c [bv 102], ol 56 (some ⟨x.g, 0, none⟩) 1 [smM x], Ck.ro x.e [bv 103], Ck.ro x.f [bv 120]]
def smO (x : Sm) : Ck := .star (smL x)
def smD : List Int × List Bs := ([5, 9, 4], [[99], [102]])
def smS : List MD := [⟨7, 1, [103], [], [120]⟩]
theorem smN_k (x : Sm) : (smN x).k.d = smD := rfl
theorem smN_m (x : Sm) : (smN x).md = smS := rfl
theorem RNd.sm0 {x : Sm} : RNd w0 (smL x ++ H) (smN x) := by
  refine ⟨⟨RSl.hd, RSl.hd.tl, fun p hp => ?_⟩, ⟨RSl.hd.tl.tl.tl.tl, fun m hm => ?_⟩⟩
  · simp only [List.mem_cons, List.not_mem_nil, or_false] at hp
    rcases hp with rfl | rfl
    · exact (RBy.ro (xs := [99]) rfl (by decide)).tl.tl
    · exact (RBy.ro (xs := [102]) rfl (by decide)).tl.tl.tl
  · rw [List.mem_singleton.1 hm]
    exact ⟨(RBy.ro (xs := [103]) rfl (by decide)).tl.tl.tl.tl.tl, RBy.nil, (RBy.ro (xs := [120]) rfl (by decide)).tl.tl.tl.tl.tl.tl⟩
theorem RNd.sm {x : Sm} : RNd w0 (smO x :: H) (smN x) := RNd.sm0.ent (Ent.open Ent.refl)
theorem sm_chk : chkN 512 smD smS = 0 := by decide +kernel
theorem sm_I (x : Sm) : ∀ p ∈ (smN x).k.ps, I64 p := by
  intro p hp
  simp only [List.mem_cons, List.not_mem_nil, or_false] at hp
  rcases hp with rfl | rfl | rfl <;> (constructor <;> decide)
theorem sm_for : forM smD.2 2 smS = smS := by decide +kernel
theorem sm_oth : othM smD.2 2 smS = [] := by decide +kernel
theorem small_s : FnS Tryz.prog w0 H 12 #[] (fun v H' => ∃ x : Sm, v = .agg (smN x).cells.toArray ∧ H' = smO x :: H) := by
  refine fns_enter Tryz.func12 rfl rfl rfl ?_
  refine sx ?_
  refine s_alloc fun b0 => ?_
  refine sx ?_
  refine s_bsl ([5, 9, 4] : List Int) rfl rfl fun b2 => ?_
  refine s_bsl ([99] : Bs) rfl rfl fun b3 => ?_
  refine s_convb rfl (by exact at_) ?_
  refine sx ?_
  refine s_bsl ([102] : Bs) rfl rfl fun b5 => ?_
  refine s_convb rfl (by exact at_) ?_
  refine sx ?_
  refine s_bsl [(⟨some ⟨b3, 0, none⟩, 1, [99]⟩ : SB), ⟨some ⟨b5, 0, none⟩, 1, [102]⟩] rfl rfl fun b7 => ?_
  refine sx ?_
  refine s_rw (t := 8) (v' := .agg (smN ⟨b2, b3, b5, b7, 0, 0, 0⟩).k.cells.toArray) rfl rfl ?_
  refine s_alloc fun b1 => ?_
  refine sx ?_
  refine s_bsl ([103] : Bs) rfl rfl fun b10 => ?_
  refine s_convb rfl (by exact at_) ?_
  refine sx ?_
  refine s_bsl ([120] : Bs) rfl rfl fun b12 => ?_
  refine s_convb rfl (by exact at_) ?_
  refine sx ?_
  refine s_bsl [(smM ⟨b2, b3, b5, b7, b10, b12, 0⟩)] rfl rfl fun b15 => ?_
  refine sx ?_
  refine s_retc rfl rfl (by exact at_) rfl ⟨⟨b2, b3, b5, b7, b10, b12, b15⟩, rfl, rfl⟩ (Ent.star (by exact ent))
set_option maxHeartbeats 1000000 in
theorem nshown_s : FnV Tryz.prog w0 H 4 #[] (.bool true) := by
  refine fns_enter Tryz.func4 rfl rfl rfl ?_
  refine sx ?_
  refine s_call rfl small_s ?_
  rintro _ _ ⟨x1, rfl, rfl⟩
  refine ⟨chk_seq, ?_⟩
  refine sx ?_
  refine s_call rfl (nencode_s (n := smN x1) (size := 512) RNd.sm (sm_I x1) (by rw [smN_m]; decide)) ?_
  rintro _ _ ⟨a2, c2, rfl, rfl⟩
  refine ⟨chk_seq, ?_⟩
  have e0 : encNR 512 (smN x1).k.d (smN x1).md = encN smD smS := if_pos sm_chk
  have e1 : chkN 512 (smN x1).k.d (smN x1).md = 0 := sm_chk
  have hlen : (encN smD smS).length ≤ 4294967296 := by decide +kernel
  have hdec : decNE 512 (encN smD smS) = 0 ∧ decND 512 (encN smD smS) = (smD, smS) := decNE_0 ⟨sm_chk, rfl⟩
  rw [e0, e1]
  generalize encN smD smS = bs at hlen hdec ⊢
  refine sx ?_
  refine s_call rfl (ndecode_s (size := 512) (xs := bs) (by exact rby) hlen) ?_
  rintro _ _ ⟨q, rfl, hq, rfl⟩
  rw [hdec.1]
  rw [hdec.2] at hq
  refine ⟨chk_seq, ?_⟩
  refine sx ?_
  refine s_alloc fun b3 => ?_
  refine sx ?_
  refine sx ?_; refine s_drH (.hb b3 28 q.cells :: oN q (ob a2 c2 bs :: smO x1 :: H)) (.one true 0 (.one false 1 (.one false 2 (.one true 3 .nil)))) mixed (by kernel_rfl) ?_; refine sx ?_
  refine s_call rfl small_s ?_
  rintro _ _ ⟨x4, rfl, rfl⟩
  refine ⟨chk_held (by exact ent), ?_⟩
  refine sx ?_
  have hrq : RNd w0 (smO x4 :: .hb b3 28 q.cells :: oN q (ob a2 c2 bs :: smO x1 :: H)) q := RNd.oN.tl.tl
  refine s_callV rfl (nsame_s (n := q) (q := smN x4) hrq RNd.sm) ?_
  have e5 : decide (q.k.d = (smN x4).k.d ∧ q.md = (smN x4).md) = true := by
    injection hq with h1 h2
    rw [decide_eq_true]
    exact ⟨h1, h2⟩
  rw [e5]
  refine sx ?_
  refine s_call rfl small_s ?_
  rintro _ _ ⟨x5, rfl, rfl⟩
  refine ⟨chk_seq, ?_⟩
  refine sx ?_
  refine s_call rfl (ntake_s (n := smN x5) (i := 2) RNd.sm (by show (3 : Nat) ≤ 4294967296; decide) (by show (6 : Nat) ≤ 4294967296; decide) (by rw [smN_m]; decide)) ?_
  rintro _ _ ⟨r, la, lc, ls, e, rfl, rfl, ht⟩
  have hc5 : ¬ ((2 : Int) < 0 ∨ ((smN x5).k.ps.length : Int) ≤ 2) := (by decide : ¬ ((2 : Int) < 0 ∨ ((3 : Nat) : Int) ≤ 2))
  rw [if_neg hc5] at ht
  obtain ⟨rfl, h1, h2, h3⟩ := ht
  rw [show (smN x5).md = smS from rfl, show (smN x5).k.keys = smD.2 from rfl] at h2 h3
  rw [sm_oth] at h2
  rw [sm_for] at h3
  refine ⟨chk_seq, ?_⟩
  obtain ⟨m, rfl, hm⟩ : ∃ m, ls = [m] ∧ m.st = 7 := by
    have hl := congrArg List.length h3
    simp only [List.length_map] at hl
    match ls, hl with
    | [m], _ =>
      have := List.singleton_inj.1 h3
      exact ⟨m, rfl, congrArg MD.st this⟩
  have hr : r.ms = [] := by simpa using h2
  refine s_knL (fun w hs => own_gA (Sat.ownOf (c' := ol 56 la lc [m]) .hd hs) (by show 0 < 1; decide)) fun ⟨ad, hla⟩ => ?_
  subst hla
  obtain ⟨rk, rma, rmc, rms⟩ := r
  simp only at hr
  subst hr
  refine sx ?_
  refine s_alloc fun b6 => ?_
  refine sx ?_
  obtain ⟨mst, mkd, mla, mlc, mlo, mha, mhc, mhi, mva, mvc, mv⟩ := m
  simp only at hm
  subst hm
  refine sx ?_
  refine s_yS rfl rfl rfl (y_index0 rfl rfl (by show 0 < 1; decide)) ?_
  refine sx ?_
  exact s_ret1 rfl rfl ⟨rfl, rfl⟩
end Go.Sx
namespace Go.Sx
open Go Go.Proofs
set_option maxRecDepth 10000
variable {w0 : World} {H : List Ck}
theorem size_of {m : Nat} (h : m < 4) : sizedB ((512 * 2 ^ m : Nat) : Int) = true := by
  have : m = 0 ∨ m = 1 ∨ m = 2 ∨ m = 3 := by omega
  rcases this with rfl | rfl | rfl | rfl <;> rfl
theorem pkL_nat {c n : Int} (hn : 0 < n) : ∃ m : Nat, pkL c n = (m : Int) ∧ (m : Int) < n := by
  have h := pkL_bd (c := c) hn
  exact ⟨(pkL c n).toNat, by omega, by omega⟩
theorem isN_I64 {size : Int} {n : Nd} (h : chkN size n.k.d n.md = 0) : ∀ p ∈ n.k.ps, I64 p := fun p hp => by
  have h1 := (chkK_0 (chkN_0 h).1).2.1.2.2
  have := h1.2 p hp
  constructor <;> omega
theorem isN_sum {size : Int} {n : Nd} (h : chkN size n.k.d n.md = 0) : sumM n.md ≤ 549755813888 := by
  obtain ⟨g1, g2, g3, g4⟩ := chkN_0 h
  have hs := sizedB_bd (chkK_0 g1).1
  have h2 : bytesM n.md = 4 + sumM n.md := rfl
  omega
theorem encN_len (d : List Int × List Bs) (ms : List MD) : (encN d ms).length = bytesK d + bytesM ms := by rw [encN, List.length_append, encK_len, layM_len]
theorem decNE_not {size : Int} {xs : Bs} (hs : sizedB size = true) (h : decNE size xs ≠ 0) : decNE size xs = 84 ∧ decND size xs = (([], []), []) := by
  refine decNE_84 hs fun d ms g => h (decNE_0 g).1
theorem decNE_is {size : Int} {xs : Bs} (h : decNE size xs = 0) : IsN size xs (decND size xs).1 (decND size xs).2 := by
  unfold decNE at h
  split at h
  · cases h
  split at h
  · rename_i g
    obtain ⟨p, hp⟩ := Option.isSome_iff_exists.1 g
    have := decNo_some hp
    rw [decND, hp]
    exact this
  · cases h
end Go.Sx
namespace Go.Sx
open Go Go.Proofs
set_option maxRecDepth 10000
theorem sumM_mem {l : List MD} {m : MD} (h : m ∈ l) : lenM m ≤ sumM l := by
  induction l with
  | nil => cases h
  | cons a l ih =>
    simp only [sumM, List.map_cons, List.sum_cons]
    rcases List.mem_cons.1 h with rfl | h
    · omega
    · have := ih h
      simp only [sumM] at this
      omega
/-- A node that has few parts, each short. -/
structure Nd.Few (n : Nd) : Prop where
  ps : n.k.ps.length ≤ 65536
  ks : n.k.ks.length ≤ 65536
  kl : ∀ p ∈ n.k.ks, p.xs.length ≤ 4096
  ms : n.ms.length ≤ 4096
  ml : ∀ m ∈ n.ms, m.lo.length ≤ 4096 ∧ m.hi.length ≤ 4096 ∧ m.v.length ≤ 4096
theorem few_chk {size : Int} {n : Nd} (h : chkN size n.k.d n.md = 0) : n.Few := by
  obtain ⟨g1, g2, g3, g4⟩ := chkN_0 h
  obtain ⟨h1, ⟨h2, _, h3⟩, h4, _, _⟩ := chkK_0 g1
  have hs := sizedB_bd h1
  have h5 := pg_bd h3
  have hb : bytesM n.md = 4 + sumM n.md := rfl
  have hl := sumM_len n.md
  have e2 : n.k.d.1.length = n.k.ps.length := rfl
  have e3 : n.k.d.2.length = n.k.ks.length := by simp [Kd.keys]
  have e4 : n.md.length = n.ms.length := by simp [Nd.md]
  refine ⟨by omega, by omega, fun p hp => ?_, by omega, fun m hm => ?_⟩
  · have := (h4 p.xs (List.mem_map.2 ⟨p, hp, rfl⟩)).2
    omega
  · have := sumM_mem (l := n.md) (List.mem_map.2 ⟨m, hm, rfl⟩)
    simp only [lenM] at this
    omega
theorem dnd_few {size : Int} {xs : Bs} {n : Nd} (h : (n.k.d, n.md) = decND size xs) : n.Few := by
  unfold decND at h
  rcases hr : decNo size xs with _ | p
  · rw [hr] at h
    have h1 : n.k.ps = [] := congrArg (fun p => p.1.1) h
    have h2 : n.k.keys = [] := congrArg (fun p => p.1.2) h
    have h3 : n.md = [] := congrArg Prod.snd h
    have h2 : n.k.ks = [] := by simpa [Kd.keys] using h2
    have h3 : n.ms = [] := by simpa [Nd.md] using h3
    refine ⟨by simp [h1], by simp [h2], by simp [h2], by simp [h3], by simp [h3]⟩
  · rw [hr] at h
    have := (decNo_some hr).1
    have e1 : n.k.d = p.1 := congrArg Prod.fst h
    have e2 : n.md = p.2 := congrArg Prod.snd h
    rw [← e1, ← e2] at this
    exact few_chk this
variable {w0 : World} {H : List Ck}
/-- A new book. -/
abbrev nb0 (k : Nat) : NB := ⟨k, none, 0, [], none, 0, [], none, 0, [], none, 0, [], none, 0, []⟩
theorem nb0_ok (k : Nat) : (nb0 k).Ok 0 := { same := rfl, len := Nat.le_refl _, leni := Nat.le_refl _, lenk := Nat.le_refl _, lenm := Nat.le_refl _, small := fun s h => (by cases h), smalli := fun s h => (by cases h), smallk := fun s h => (by cases h), smallm := fun s h => (by cases h) }
theorem nb0_ent {k : Nat} : Ent (.hb k 36 [.slice none 0 0, .slice none 0 0, .slice none 0 0, .slice none 0 0, .slice none 0 0] :: H) ((nb0 k).ck :: H) := by
  refine Ent.trans ?_ NB.shut
  refine Ent.cons (by exact rm) ?_
  refine Ent.nilS.trans (Ent.head ?_)
  refine Ent.nilS.trans (Ent.head ?_)
  refine fam_nil.trans (Ent.head ?_)
  refine fam_nil.trans (Ent.head ?_)
  refine Ent.star ?_
  refine Ent.nilS.trans (Ent.head ?_)
  refine Ent.nilS.trans (Ent.head ?_)
  refine Ent.nilS.trans (Ent.head ?_)
  refine fam_nil.trans (Ent.head ?_)
  refine fam_nil.trans (Ent.head ?_)
  exact fam_nil
theorem nsame_t {n q : Nd} (hn : RNd w0 H n) (hq : RNd w0 H q) (h : (n.k.d, n.md) = (q.k.d, q.md)) : FnV Tryz.prog w0 H 14 #[.agg n.cells.toArray, .agg q.cells.toArray] (.bool true) := by
  have := nsame_s hn hq
  rwa [decide_eq_true ⟨congrArg Prod.fst h, congrArg Prod.snd h⟩] at this
theorem nmarked_s {a : Option Addr} {c : Nat} {xs : Bs} (ha : RBy w0 H a c xs) (hx : xs.length + 2 ≤ 140737488355328) : FnS Tryz.prog w0 H 16 #[.slice a xs.length c] (fun v H' => ∃ a c, v = .slice a (xs ++ [167, 168]).length c ∧ H' = ob a c (xs ++ [167, 168]) :: H) := by
  refine fns_enter Tryz.func16 rfl rfl rfl ?_
  refine sx ?_
  refine s_bsl ([] : Bs) rfl rfl fun b3 => ?_
  refine sx ?_
  refine s_app ?_ (ys := xs)
  intro a5 c5
  refine s_bsl ([167, 168] : Bs) rfl rfl fun b6 => ?_
  refine s_app ?_
  intro a7 c7
  refine sx ?_
  exact s_ret1 rfl rfl ⟨a7, c7, rfl, rfl⟩
end Go.Sx
