/- Part of a proof: BranchReplaces, walked. -/
import Derived.Test.YtolnmecncilpeaaCBJ
import Derived.Test.YtolnmecncilpeaaCBK
import Derived.Test.YtolnmecncilpeaaCBF
import Derived.Test.YtolnmecncilpeaaCBL
namespace Go.Sx
open Go Go.Proofs
set_option maxRecDepth 10000
variable {w0 : World} {H : List Ck}
abbrev rpD (d b : List Int × List Bs) (i j : Int) : List Int × List Bs := if repOk d b i j then repD d b i.toNat j.toNat else ([], [])
theorem rep_few {k q x : Kd} {i j : Int} (h1 : ksm9 k) (h2 : ksm9 q) (hx : x.d = rpD k.d q.d i j) : x.few := by
  obtain ⟨a1, a2⟩ := h1
  obtain ⟨c1, c2⟩ := h2
  have e1 : x.ps = (rpD k.d q.d i j).1 := congrArg Prod.fst hx
  have e2 : x.keys = (rpD k.d q.d i j).2 := congrArg Prod.snd hx
  have e3 : x.ks.length = x.keys.length := by simp [Kd.keys]
  have k1 := (keysB_len k.keys).2
  have k2 := (keysB_len q.keys).2
  have k3 := keysB_eq k.keys
  have k4 := keysB_eq q.keys
  by_cases h : repOk k.d q.d i j
  · rw [rpD, if_pos h] at e1 e2
    have l1 : x.ps.length ≤ k.ps.length + q.ps.length + k.ps.length := by
      rw [e1]
      simp only [repD, List.length_append, List.length_take, List.length_drop]
      omega
    have hij : i.toNat ≤ j.toNat := by have := h.2.2.2.1; omega
    have l1 : x.ps.length ≤ k.ps.length + q.ps.length := by
      rw [e1]
      simp only [repD, List.length_append, List.length_take, List.length_drop]
      omega
    have hij2 : i.toNat ≤ j.toNat - 1 := by have := h.2.2.2.1; have := h.2.2.1; omega
    have l2 : x.keys.length ≤ k.keys.length + q.keys.length := by
      rw [e2]
      simp only [repD, List.length_append, List.length_take, List.length_drop]
      omega
    refine ⟨by omega, by omega, by omega, fun p hp => ?_⟩
    have hm : p.xs ∈ x.keys := List.mem_map.2 ⟨p, hp, rfl⟩
    rw [e2] at hm
    simp only [repD, List.mem_append] at hm
    rcases hm with (hm | hm) | hm
    · have := k1 _ (List.mem_of_mem_take hm)
      omega
    · have := k2 _ hm
      omega
    · have := k1 _ (List.mem_of_mem_drop hm)
      omega
  · rw [rpD, if_neg h] at e1 e2
    rw [e2] at e3
    simp only [List.length_nil] at e3
    refine ⟨by rw [e1]; simp, by omega, by rw [e2]; simp, fun p hp => ?_⟩
    have := List.length_pos_of_mem hp
    omega
theorem brep_d {k q : Kd} {i j : Int} {d b : List Int × List Bs} (hk : RKd w0 H k) (hq : RKd w0 H q) (hi : I64 i) (hj : I64 j) (h1 : Ksm k) (h2 : Ksm q) (e1 : k.d = d) (e2 : q.d = b) :
    FnS Try.prog w0 H 23 #[.agg k.cells.toArray, .int .i64 i, .int .i64 j, .agg q.cells.toArray] (RepR d b i j H) := by
  subst e1; subst e2; exact breplace_s hk hq hi hj h1 h2
theorem rrep_d {k q : Kd} {i j : Int} {d b : List Int × List Bs} (hk : RKd w0 H k) (hq : RKd w0 H q) (hi : I64 i) (hj : I64 j) (h1 : Ksm k) (h2 : Ksm q) (e1 : k.d = d) (e2 : q.d = b) :
    FnS Try.prog w0 H 24 #[.agg k.cells.toArray, .int .i64 i, .int .i64 j, .agg q.cells.toArray] (RepR d b i j H) := by
  subst e1; subst e2; exact rreplace_s hk hq hi hj h1 h2
set_option maxHeartbeats 4000000 in
theorem replaces_s {k q : Kd} {i j : Int} (hk : RKd w0 H k) (hkp : k.ps.length ≤ 140737488355328) (hkl : ∀ p ∈ k.ks, p.xs.length ≤ 140737488355328) (hq : RKd w0 H q) (hqp : q.ps.length ≤ 140737488355328) (hql : ∀ p ∈ q.ks, p.xs.length ≤ 140737488355328) (hi : I64 i) (hj : I64 j) :
    FnV Try.prog w0 H 6 #[.agg k.cells.toArray, .int .i64 i, .int .i64 j, .agg q.cells.toArray] (.bool true) := by
  refine fns_enter Try.func6 rfl rfl rfl ?_
  refine sx ?_
  refine s_boxA rfl fun b4 => ?_
  refine sx ?_
  refine s_boxA rfl fun b7 => ?_
  refine sx ?_
  refine s_callV rfl alive_s ?_
  refine sx ?_
  refine s_callV rfl (weight_s (by exact rkd) hkp hkl) ?_
  refine sx ?_
  refine s_lif rfl (fun t1 => ?_) (fun t1 => ?_)
  · refine sx ?_
    exact s_ret1 rfl rfl ⟨rfl, rfl⟩
  refine sx ?_
  refine s_callV rfl (weight_s (by exact rkd) hqp hql) ?_
  refine sx ?_
  refine s_if rfl (fun t2 => ?_) (fun t2 => ?_)
  · refine sx ?_
    exact s_ret1 rfl rfl ⟨rfl, rfl⟩
  have hm1 := wgt_ksm t1
  have hm2 := wgt_ksm t2
  refine sx ?_
  refine s_boxA (cs := [.slice none 0 0, .slice none 0 0]) rfl fun b10 => ?_
  refine sx ?_
  refine s_call rfl (lend_s (k := k) (by exact rkd) hm1) ?_
  rintro _ _ ⟨L, rfl, hLd, rfl⟩
  refine ⟨chk_seq, ?_⟩
  refine sx ?_
  refine s_call rfl (lend_s (k := q) (by exact rkd) hm2) ?_
  rintro _ _ ⟨M, rfl, hMd, rfl⟩
  refine ⟨chk_seq, ?_⟩
  refine sx ?_
  refine s_cut (fun m : Nat × Kd => [(1, .int .i64 i), (2, .int .i64 j), (4, .pointer (some ⟨b4, 0, none⟩)), (7, .pointer (some ⟨b7, 0, none⟩)), (9, .bool true), (10, .pointer (some ⟨b10, 0, none⟩)), (11, .pointer (some ⟨L.b, 0, none⟩)), (12, .pointer (some ⟨M.b, 0, none⟩)), (13, .pointer (some ⟨m.1, 0, none⟩)), (14, .int .i64 (if repOk k.d q.d i j then 0 else 1))]) (fun m => .hb m.1 31 m.2.cells :: oK m.2 :: M.hb :: .star M.cs :: L.hb :: .star L.cs :: .hb b10 27 [.slice none 0 0, .slice none 0 0] :: .hb b7 31 q.cells :: .hb b4 31 k.cells :: H) (fun m => m.2.d = rpD k.d q.d i j) ?_ ?_
  · have rL : RKd w0 (M.hb :: .star M.cs :: L.hb :: .star L.cs :: .hb b10 27 [.slice none 0 0, .slice none 0 0] :: .hb b7 31 q.cells :: .hb b4 31 k.cells :: H) L.k := by exact ((Bl.rkd (H := []) (L := L)).ent (by exact ent))
    have rM : RKd w0 (M.hb :: .star M.cs :: L.hb :: .star L.cs :: .hb b10 27 [.slice none 0 0, .slice none 0 0] :: .hb b7 31 q.cells :: .hb b4 31 k.cells :: H) M.k := by exact ((Bl.rkd (H := []) (L := M)).ent (by exact ent))
    refine sx ?_; refine s_drH (M.hb :: .star M.cs :: L.hb :: .star L.cs :: .hb b10 27 [.slice none 0 0, .slice none 0 0] :: .hb b7 31 q.cells :: .hb b4 31 k.cells :: H) (.one true 0 (.one true 1 (.one true 2 (.one true 3 (.one true 4 (.one true 5 (.one true 6 (.one true 7 (.one true 8 (.one true 9 (.alt (.one false 10 (.one true 11 (.one true 12 (.one true 13 (.one false 14 (.one false 15 (.one true 16 .nil))))))) (.one false 14 (.one false 10 (.one true 11 (.one true 12 (.one true 13 (.one false 15 (.one true 16 .nil)))))))))))))))))) mixed (by kernel_rfl) ?_; refine sx ?_
    refine s_rw (t := 48) (v' := .agg L.k.cells.toArray) rfl (by first | rfl | (rw [Bl.cells']; rfl)) ?_
    refine s_rw (t := 54) (v' := .agg M.k.cells.toArray) rfl (by first | rfl | (rw [Bl.cells']; rfl)) ?_
    refine sx ?_
    refine s_alt ?_ ?_
    · refine s_call rfl (brep_d (k := L.k) (q := M.k) (by exact rkd) (by exact rkd) hi hj (ksm_of hm1 hLd) (ksm_of hm2 hMd) hLd hMd) ?_
      rintro _ _ ⟨x, rfl, hx, rfl⟩
      refine ⟨chk_held (by exact ent), ?_⟩
      refine sx ?_
      refine s_alloc fun b => ?_
      refine sx ?_
      exact s_mid (b, x) hx
    · refine s_alloc fun b => ?_
      refine s_call rfl (brep_d (k := L.k) (q := M.k) (by exact rkd) (by exact rkd) hi hj (ksm_of hm1 hLd) (ksm_of hm2 hMd) hLd hMd) ?_
      rintro _ _ ⟨x, rfl, hx, rfl⟩
      refine ⟨chk_held (by exact ent), ?_⟩
      refine sx ?_
      exact s_mid (b, x) hx
  rintro ⟨b13, x⟩ hx
  simp only at hx ⊢
  refine sx ?_
  refine s_cut (fun m : Nat × Kd => [(1, .int .i64 i), (2, .int .i64 j), (4, .pointer (some ⟨b4, 0, none⟩)), (7, .pointer (some ⟨b7, 0, none⟩)), (9, .bool true), (10, .pointer (some ⟨b10, 0, none⟩)), (11, .pointer (some ⟨L.b, 0, none⟩)), (12, .pointer (some ⟨M.b, 0, none⟩)), (13, .pointer (some ⟨b13, 0, none⟩)), (14, .int .i64 (if repOk k.d q.d i j then 0 else 1)), (15, .pointer (some ⟨m.1, 0, none⟩)), (16, .int .i64 (if repOk k.d q.d i j then 0 else 1))]) (fun m => .hb m.1 31 m.2.cells :: oK m.2 :: .hb b13 31 x.cells :: oK x :: M.hb :: .star M.cs :: L.hb :: .star L.cs :: .hb b10 27 [.slice none 0 0, .slice none 0 0] :: .hb b7 31 q.cells :: .hb b4 31 k.cells :: H) (fun m => m.2.d = rpD k.d q.d i j) ?_ ?_
  · have rL : RKd w0 (.hb b13 31 x.cells :: oK x :: M.hb :: .star M.cs :: L.hb :: .star L.cs :: .hb b10 27 [.slice none 0 0, .slice none 0 0] :: .hb b7 31 q.cells :: .hb b4 31 k.cells :: H) L.k := by exact ((Bl.rkd (H := []) (L := L)).ent (by exact ent))
    have rM : RKd w0 (.hb b13 31 x.cells :: oK x :: M.hb :: .star M.cs :: L.hb :: .star L.cs :: .hb b10 27 [.slice none 0 0, .slice none 0 0] :: .hb b7 31 q.cells :: .hb b4 31 k.cells :: H) M.k := by exact ((Bl.rkd (H := []) (L := M)).ent (by exact ent))
    refine sx ?_; refine s_drH (.hb b13 31 x.cells :: oK x :: M.hb :: .star M.cs :: L.hb :: .star L.cs :: .hb b10 27 [.slice none 0 0, .slice none 0 0] :: .hb b7 31 q.cells :: .hb b4 31 k.cells :: H) (.one true 0 (.one true 1 (.one true 2 (.one true 3 (.one true 4 (.one true 5 (.one true 6 (.one true 7 (.one true 8 (.one true 9 (.alt (.one false 10 (.one true 11 (.one true 12 (.one true 13 (.one false 14 (.one false 15 (.one true 16 .nil))))))) (.one false 14 (.one false 10 (.one true 11 (.one true 12 (.one true 13 (.one false 15 (.one true 16 .nil)))))))))))))))))) mixed (by kernel_rfl) ?_; refine sx ?_
    refine s_rw (t := 62) (v' := .agg L.k.cells.toArray) rfl (by first | rfl | (rw [Bl.cells']; rfl)) ?_
    refine s_rw (t := 68) (v' := .agg M.k.cells.toArray) rfl (by first | rfl | (rw [Bl.cells']; rfl)) ?_
    refine sx ?_
    refine s_alt ?_ ?_
    · refine s_call rfl (brep_d (k := L.k) (q := M.k) (by exact rkd) (by exact rkd) hi hj (ksm_of hm1 hLd) (ksm_of hm2 hMd) hLd hMd) ?_
      rintro _ _ ⟨x, rfl, hx, rfl⟩
      refine ⟨chk_held (by exact ent), ?_⟩
      refine sx ?_
      refine s_alloc fun b => ?_
      refine sx ?_
      exact s_mid (b, x) hx
    · refine s_alloc fun b => ?_
      refine s_call rfl (brep_d (k := L.k) (q := M.k) (by exact rkd) (by exact rkd) hi hj (ksm_of hm1 hLd) (ksm_of hm2 hMd) hLd hMd) ?_
      rintro _ _ ⟨x, rfl, hx, rfl⟩
      refine ⟨chk_held (by exact ent), ?_⟩
      refine sx ?_
      exact s_mid (b, x) hx
  rintro ⟨b15, y⟩ hy
  simp only at hy ⊢
  refine sx ?_
  refine s_call rfl (rrep_d (k := k) (q := q) (by exact rkd) (by exact rkd) hi hj (ksm_of hm1 rfl) (ksm_of hm2 rfl) rfl rfl) ?_
  rintro _ _ ⟨z, rfl, hz, rfl⟩
  refine ⟨chk_seq, ?_⟩
  refine sx ?_
  refine s_alloc fun b17 => ?_
  refine sx ?_
  refine s_entL (.hb b10 27 [.slice none 0 0, .slice none 0 0] :: ol 31 none 0 ([] : List Kd) :: ol 31 none 0 ([] : List Kd) :: .hb b17 31 z.cells :: oK z :: .hb b15 31 y.cells :: oK y :: .hb b13 31 x.cells :: oK x :: M.hb :: .star M.cs :: L.hb :: .star L.cs :: .hb b7 31 q.cells :: .hb b4 31 k.cells :: H) (Ent.trans (H' := .hb b10 27 [.slice none 0 0, .slice none 0 0] :: .hb b17 31 z.cells :: oK z :: .hb b15 31 y.cells :: oK y :: .hb b13 31 x.cells :: oK x :: M.hb :: .star M.cs :: L.hb :: .star L.cs :: .hb b7 31 q.cells :: .hb b4 31 k.cells :: H) (by exact ent) (Ent.head (Ent.nilS.trans Ent.nilS))) ?_
  refine s_call rfl (keep_e (ls := []) (ws := []) (ls' := [x]) (ws' := [z]) (k := x) (q := z) rfl rfl ⟨by simp, by simp⟩ (by exact rkd) (by exact rkd) (hx.trans hz.symm)) ?_
  rintro _ _ ⟨rfl, la1, lc1, wa1, wc1, rfl⟩
  refine ⟨chk_seq, ?_⟩
  refine sx ?_
  refine s_call rfl (keep_e (ls := [x]) (ws := [z]) (ls' := [x, y]) (ws' := [z, z]) (k := y) (q := z) rfl rfl ⟨by simp, by simp⟩ (by exact rkd) (by exact rkd) (hy.trans hz.symm)) ?_
  rintro _ _ ⟨rfl, la2, lc2, wa2, wc2, rfl⟩
  refine ⟨chk_seq, ?_⟩
  refine sx ?_
  refine s_call rfl ((stays_s (L := L) (k := k) (H := .hb b10 27 [.slice la2 [x, y].length lc2, .slice wa2 [z, z].length wc2] :: ol 31 la2 lc2 [x, y] :: ol 31 wa2 wc2 [z, z] :: .hb b17 31 z.cells :: oK z :: .hb b15 31 y.cells :: oK y :: .hb b13 31 x.cells :: oK x :: M.hb :: .star M.cs :: .hb b7 31 q.cells :: .hb b4 31 k.cells :: H) (by exact rkd) hLd hm1).ent (by exact ent)) ?_
  rintro _ _ ⟨rfl, rfl⟩
  refine ⟨chk_seq, ?_⟩
  refine sx ?_
  refine s_call rfl ((stays_s (L := M) (k := q) (H := L.hb :: .star L.cs' :: .hb b10 27 [.slice la2 [x, y].length lc2, .slice wa2 [z, z].length wc2] :: ol 31 la2 lc2 [x, y] :: ol 31 wa2 wc2 [z, z] :: .hb b17 31 z.cells :: oK z :: .hb b15 31 y.cells :: oK y :: .hb b13 31 x.cells :: oK x :: .hb b7 31 q.cells :: .hb b4 31 k.cells :: H) (by exact rkd) hMd hm2).ent (by exact ent)) ?_
  rintro _ _ ⟨rfl, rfl⟩
  refine ⟨chk_seq, ?_⟩
  refine sx ?_
  have hm1' := ksm_up (ksm9_d hm1 hLd)
  have hm2' := ksm_up (ksm9_d hm2 hMd)
  refine s_cut (fun m : Nat × Kd => [(1, .int .i64 i), (2, .int .i64 j), (4, .pointer (some ⟨b4, 0, none⟩)), (7, .pointer (some ⟨b7, 0, none⟩)), (9, .bool true), (10, .pointer (some ⟨b10, 0, none⟩)), (11, .pointer (some ⟨L.b, 0, none⟩)), (12, .pointer (some ⟨M.b, 0, none⟩)), (14, .int .i64 (if repOk k.d q.d i j then 0 else 1)), (16, .int .i64 (if repOk k.d q.d i j then 0 else 1)), (18, .int .i64 (if repOk k.d q.d i j then 0 else 1)), (19, .bool true), (20, .bool true), (21, .bool true), (22, .bool true), (23, .pointer (some ⟨m.1, 0, none⟩)), (24, .int .i64 (if repOk L.k'.d M.k'.d i j then 0 else 1))]) (fun m => .hb m.1 31 m.2.cells :: oK m.2 :: M.hb :: .star M.cs' :: L.hb :: .star L.cs' :: .hb b10 27 [.slice la2 [x, y].length lc2, .slice wa2 [z, z].length wc2] :: ol 31 la2 lc2 [x, y] :: ol 31 wa2 wc2 [z, z] :: .hb b17 31 z.cells :: oK z :: .hb b15 31 y.cells :: oK y :: .hb b13 31 x.cells :: oK x :: .hb b7 31 q.cells :: .hb b4 31 k.cells :: H) (fun m => m.2.d = rpD L.k'.d M.k'.d i j) ?_ ?_
  · have rL : RKd w0 (M.hb :: .star M.cs' :: L.hb :: .star L.cs' :: .hb b10 27 [.slice la2 [x, y].length lc2, .slice wa2 [z, z].length wc2] :: ol 31 la2 lc2 [x, y] :: ol 31 wa2 wc2 [z, z] :: .hb b17 31 z.cells :: oK z :: .hb b15 31 y.cells :: oK y :: .hb b13 31 x.cells :: oK x :: .hb b7 31 q.cells :: .hb b4 31 k.cells :: H) L.k' := by exact ((Bl.rkd' (H := []) (L := L)).ent (by exact ent))
    have rM : RKd w0 (M.hb :: .star M.cs' :: L.hb :: .star L.cs' :: .hb b10 27 [.slice la2 [x, y].length lc2, .slice wa2 [z, z].length wc2] :: ol 31 la2 lc2 [x, y] :: ol 31 wa2 wc2 [z, z] :: .hb b17 31 z.cells :: oK z :: .hb b15 31 y.cells :: oK y :: .hb b13 31 x.cells :: oK x :: .hb b7 31 q.cells :: .hb b4 31 k.cells :: H) M.k' := by exact ((Bl.rkd' (H := []) (L := M)).ent (by exact ent))
    refine sx ?_; refine s_drH (M.hb :: .star M.cs' :: L.hb :: .star L.cs' :: .hb b10 27 [.slice la2 [x, y].length lc2, .slice wa2 [z, z].length wc2] :: ol 31 la2 lc2 [x, y] :: ol 31 wa2 wc2 [z, z] :: .hb b17 31 z.cells :: oK z :: .hb b15 31 y.cells :: oK y :: .hb b13 31 x.cells :: oK x :: .hb b7 31 q.cells :: .hb b4 31 k.cells :: H) (.one true 0 (.one true 1 (.one true 2 (.one true 3 (.one true 4 (.one true 5 (.one true 6 (.one true 7 (.one true 8 (.one true 9 (.alt (.one false 10 (.one true 11 (.one true 12 (.one true 13 (.one false 14 (.one false 15 (.one true 16 .nil))))))) (.one false 14 (.one false 10 (.one true 11 (.one true 12 (.one true 13 (.one false 15 (.one true 16 .nil)))))))))))))))))) mixed (by kernel_rfl) ?_; refine sx ?_
    refine s_rw (t := 98) (v' := .agg L.k'.cells.toArray) rfl (by first | rfl | (rw [Bl.cells']; rfl)) ?_
    refine s_rw (t := 104) (v' := .agg M.k'.cells.toArray) rfl (by first | rfl | (rw [Bl.cells']; rfl)) ?_
    refine sx ?_
    refine s_alt ?_ ?_
    · refine s_call rfl (brep_d (k := L.k') (q := M.k') (by exact rkd) (by exact rkd) hi hj (ksm_of hm1' rfl) (ksm_of hm2' rfl) rfl rfl) ?_
      rintro _ _ ⟨x, rfl, hx, rfl⟩
      refine ⟨chk_held (by exact ent), ?_⟩
      refine sx ?_
      refine s_alloc fun b => ?_
      refine sx ?_
      exact s_mid (b, x) hx
    · refine s_alloc fun b => ?_
      refine s_call rfl (brep_d (k := L.k') (q := M.k') (by exact rkd) (by exact rkd) hi hj (ksm_of hm1' rfl) (ksm_of hm2' rfl) rfl rfl) ?_
      rintro _ _ ⟨x, rfl, hx, rfl⟩
      refine ⟨chk_held (by exact ent), ?_⟩
      refine sx ?_
      exact s_mid (b, x) hx
  rintro ⟨b23, u⟩ hu
  simp only at hu ⊢
  refine sx ?_
  refine s_cut (fun m : Nat × Kd => [(1, .int .i64 i), (2, .int .i64 j), (4, .pointer (some ⟨b4, 0, none⟩)), (7, .pointer (some ⟨b7, 0, none⟩)), (9, .bool true), (10, .pointer (some ⟨b10, 0, none⟩)), (11, .pointer (some ⟨L.b, 0, none⟩)), (12, .pointer (some ⟨M.b, 0, none⟩)), (14, .int .i64 (if repOk k.d q.d i j then 0 else 1)), (16, .int .i64 (if repOk k.d q.d i j then 0 else 1)), (18, .int .i64 (if repOk k.d q.d i j then 0 else 1)), (19, .bool true), (20, .bool true), (21, .bool true), (22, .bool true), (23, .pointer (some ⟨b23, 0, none⟩)), (24, .int .i64 (if repOk L.k'.d M.k'.d i j then 0 else 1)), (25, .pointer (some ⟨m.1, 0, none⟩)), (26, .int .i64 (if repOk L.k'.d M.k'.d i j then 0 else 1))]) (fun m => .hb m.1 31 m.2.cells :: oK m.2 :: .hb b23 31 u.cells :: oK u :: M.hb :: .star M.cs' :: L.hb :: .star L.cs' :: .hb b10 27 [.slice la2 [x, y].length lc2, .slice wa2 [z, z].length wc2] :: ol 31 la2 lc2 [x, y] :: ol 31 wa2 wc2 [z, z] :: .hb b17 31 z.cells :: oK z :: .hb b15 31 y.cells :: oK y :: .hb b13 31 x.cells :: oK x :: .hb b7 31 q.cells :: .hb b4 31 k.cells :: H) (fun m => m.2.d = rpD L.k'.d M.k'.d i j) ?_ ?_
  · have rL : RKd w0 (.hb b23 31 u.cells :: oK u :: M.hb :: .star M.cs' :: L.hb :: .star L.cs' :: .hb b10 27 [.slice la2 [x, y].length lc2, .slice wa2 [z, z].length wc2] :: ol 31 la2 lc2 [x, y] :: ol 31 wa2 wc2 [z, z] :: .hb b17 31 z.cells :: oK z :: .hb b15 31 y.cells :: oK y :: .hb b13 31 x.cells :: oK x :: .hb b7 31 q.cells :: .hb b4 31 k.cells :: H) L.k' := by exact ((Bl.rkd' (H := []) (L := L)).ent (by exact ent))
    have rM : RKd w0 (.hb b23 31 u.cells :: oK u :: M.hb :: .star M.cs' :: L.hb :: .star L.cs' :: .hb b10 27 [.slice la2 [x, y].length lc2, .slice wa2 [z, z].length wc2] :: ol 31 la2 lc2 [x, y] :: ol 31 wa2 wc2 [z, z] :: .hb b17 31 z.cells :: oK z :: .hb b15 31 y.cells :: oK y :: .hb b13 31 x.cells :: oK x :: .hb b7 31 q.cells :: .hb b4 31 k.cells :: H) M.k' := by exact ((Bl.rkd' (H := []) (L := M)).ent (by exact ent))
    refine sx ?_; refine s_drH (.hb b23 31 u.cells :: oK u :: M.hb :: .star M.cs' :: L.hb :: .star L.cs' :: .hb b10 27 [.slice la2 [x, y].length lc2, .slice wa2 [z, z].length wc2] :: ol 31 la2 lc2 [x, y] :: ol 31 wa2 wc2 [z, z] :: .hb b17 31 z.cells :: oK z :: .hb b15 31 y.cells :: oK y :: .hb b13 31 x.cells :: oK x :: .hb b7 31 q.cells :: .hb b4 31 k.cells :: H) (.one true 0 (.one true 1 (.one true 2 (.one true 3 (.one true 4 (.one true 5 (.one true 6 (.one true 7 (.one true 8 (.one true 9 (.alt (.one false 10 (.one true 11 (.one true 12 (.one true 13 (.one false 14 (.one false 15 (.one true 16 .nil))))))) (.one false 14 (.one false 10 (.one true 11 (.one true 12 (.one true 13 (.one false 15 (.one true 16 .nil)))))))))))))))))) mixed (by kernel_rfl) ?_; refine sx ?_
    refine s_rw (t := 112) (v' := .agg L.k'.cells.toArray) rfl (by first | rfl | (rw [Bl.cells']; rfl)) ?_
    refine s_rw (t := 118) (v' := .agg M.k'.cells.toArray) rfl (by first | rfl | (rw [Bl.cells']; rfl)) ?_
    refine sx ?_
    refine s_alt ?_ ?_
    · refine s_call rfl (rrep_d (k := L.k') (q := M.k') (by exact rkd) (by exact rkd) hi hj (ksm_of hm1' rfl) (ksm_of hm2' rfl) rfl rfl) ?_
      rintro _ _ ⟨x, rfl, hx, rfl⟩
      refine ⟨chk_held (by exact ent), ?_⟩
      refine sx ?_
      refine s_alloc fun b => ?_
      refine sx ?_
      exact s_mid (b, x) hx
    · refine s_alloc fun b => ?_
      refine s_call rfl (rrep_d (k := L.k') (q := M.k') (by exact rkd) (by exact rkd) hi hj (ksm_of hm1' rfl) (ksm_of hm2' rfl) rfl rfl) ?_
      rintro _ _ ⟨x, rfl, hx, rfl⟩
      refine ⟨chk_held (by exact ent), ?_⟩
      refine sx ?_
      exact s_mid (b, x) hx
  rintro ⟨b25, v⟩ hv
  simp only at hv ⊢
  refine sx ?_
  refine s_entL (.hb b10 27 [.slice la2 [x, y].length lc2, .slice wa2 [z, z].length wc2] :: ol 31 la2 lc2 [x, y] :: ol 31 wa2 wc2 [z, z] :: .hb b25 31 v.cells :: oK v :: .hb b23 31 u.cells :: oK u :: M.hb :: .star M.cs' :: L.hb :: .star L.cs' :: .hb b17 31 z.cells :: oK z :: .hb b15 31 y.cells :: oK y :: .hb b13 31 x.cells :: oK x :: .hb b7 31 q.cells :: .hb b4 31 k.cells :: H) (by exact ent) ?_
  refine s_call rfl (keep_e (ls := [x, y]) (ws := [z, z]) (ls' := [x, y, u]) (ws' := [z, z, v]) (k := u) (q := v) rfl rfl ⟨by simp, by simp⟩ (by exact rkd) (by exact rkd) (hu.trans hv.symm)) ?_
  rintro _ _ ⟨rfl, la3, lc3, wa3, wc3, rfl⟩
  refine ⟨chk_seq, ?_⟩
  refine sx ?_
  have rz : RKd w0 (oK v :: oK z :: H) z := by exact rkd
  have rv : RKd w0 (oK v :: oK z :: H) v := by exact rkd
  have hok : Ot.Ok ⟨b10, la3, lc3, [x, y, u], wa3, wc3, [z, z, v]⟩ (oK v :: oK z :: H) w0 := ot_ok (rep_few hm1 hm2 hx) (rep_few hm1 hm2 hy) (rep_few hm1' hm2' hu) (hx.trans hz.symm) (hy.trans hz.symm) (hu.trans hv.symm) rz rz rv
  refine s_call rfl ((ends_s (O := ⟨b10, la3, lc3, [x, y, u], wa3, wc3, [z, z, v]⟩) (H := oK v :: oK z :: H) hok).ent (by
    refine Ent.trans (H' := .hb b10 27 [.slice la3 [x, y, u].length lc3, .slice wa3 [z, z, v].length wc3] :: ol 31 la3 lc3 [x, y, u] :: ol 31 wa3 wc3 [z, z, v] :: .star ([x, y, u].map oK) :: oK v :: oK z :: H) ?_ Ent.refl
    refine Ent.cons (by exact rm) ?_
    refine Ent.cons (by exact rm) ?_
    refine Ent.cons (by exact rm) ?_
    exact Ent.trans (H' := oK x :: oK y :: oK u :: oK v :: oK z :: H) (by exact ent) (Ent.star (L := [oK x, oK y, oK u]) Ent.refl))) ?_
  rintro _ _ ⟨rfl, rfl⟩
  refine ⟨chk_seq, ?_⟩
  refine sx ?_
  exact s_ret1 rfl rfl ⟨rfl, rfl⟩
end Go.Sx
