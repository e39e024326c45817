/- Part of a proof: the document's Replace. -/
import Derived.Test.YtolnmecncilpeaaCB9
namespace Go.Sx
open Go Go.Proofs
set_option maxRecDepth 10000
variable {w0 : World} {H : List Ck}
set_option maxHeartbeats 4000000 in
theorem rreplace_s {k q : Kd} {i j : Int} (hk : RKd w0 H k) (hq : RKd w0 H q) (hi : I64 i) (hj : I64 j) (h1 : Ksm k) (h2 : Ksm q) :
    FnS Try.prog w0 H 24 #[.agg k.cells.toArray, .int .i64 i, .int .i64 j, .agg q.cells.toArray] (RepR k.d q.d i j H) := by
  refine fns_enter Try.func24 rfl rfl rfl ?_
  refine s_kn (Kn.kp hk) fun l1 => s_kn (Kn.kk hk) fun l2 => s_kn (Kn.kp hq) fun l3 => s_kn (Kn.kk hq) fun l4 => ?_
  simp only [maxLen] at l1 l2 l3 l4
  have hps := hk.ps
  have hks := hk.ks
  have hps' := hq.ps
  have hks' := hq.ks
  have hkd : k.d.2.length = k.ks.length := by simp
  have hqd : q.d.2.length = q.ks.length := by simp
  have hkp : k.d.1.length = k.ps.length := rfl
  have hqp : q.d.1.length = q.ps.length := rfl
  have hkl := keysB_len k.keys
  have hql := keysB_len q.keys
  simp only [List.length_map] at hkl hql
  refine sx ?_
  refine s_boxA rfl fun b4 => ?_
  refine sx ?_
  refine s_boxA rfl fun b7 => ?_
  refine sx ?_
  refine s_alloc fun b8 => ?_
  refine sx ?_
  refine s_callV rfl (rfit_s (k := k) (by exact rkd)) ?_
  refine sx ?_
  refine s_lifn rfl (fun t1 => ?_) (fun t1 => ?_)
  · refine sx ?_
    exact s_retcv rfl rfl rfl (by exact at_) rfl (repR_1 (fun h => t1 (by have := h.1; omega))) (Ent.trans (H' := H) (by exact ent) hnilK)
  refine sx ?_
  refine s_callV rfl (rfit_s (k := q) (by exact rkd)) ?_
  refine sx ?_
  refine s_lifn rfl (fun t2 => ?_) (fun t2 => ?_)
  · refine sx ?_
    exact s_retcv rfl rfl rfl (by exact at_) rfl (repR_1 (fun h => t2 (by have := h.2.1; omega))) (Ent.trans (H' := H) (by exact ent) hnilK)
  refine sx ?_
  refine s_lif rfl (fun t3 => ?_) (fun t3 => ?_)
  · refine sx ?_
    exact s_retcv rfl rfl rfl (by exact at_) rfl (repR_1 (fun h => by omega)) (Ent.trans (H' := H) (by exact ent) hnilK)
  refine sx ?_
  refine s_lif rfl (fun t4 => ?_) (fun t4 => ?_)
  · refine sx ?_
    exact s_retcv rfl rfl rfl (by exact at_) rfl (repR_1 (fun h => by omega)) (Ent.trans (H' := H) (by exact ent) hnilK)
  refine sx ?_
  refine s_if rfl (fun t5 => ?_) (fun t5 => ?_)
  · refine sx ?_
    exact s_retcv rfl rfl rfl (by exact at_) rfl (repR_1 (fun h => by omega)) (Ent.trans (H' := H) (by exact ent) hnilK)
  obtain ⟨i, rfl⟩ := Int.eq_ofNat_of_zero_le (by omega : 0 ≤ i)
  obtain ⟨j, rfl⟩ := Int.eq_ofNat_of_zero_le (by omega : 0 ≤ j)
  have hok : repOk k.d q.d i j := ⟨by omega, by omega, by omega, by omega, by omega⟩
  refine sx ?_
  refine s_alloc fun b10 => ?_
  have hr1 := hk.ps.take (k := i) (by omega)
  have hr2 := hk.ps.drop (j := j) (by omega)
  have e1 : (k.ps.take i).length = i := by rw [List.length_take]; omega
  have e2 : (k.ps.drop j).length = k.ps.length - j := List.length_drop
  refine sx ?_
  refine s_ent (ol 3 none 0 ([] : List Int) :: .hb b10 31 [.slice none 0 0, .slice none 0 0] :: .hb b8 31 [.slice none 0 0, .slice none 0 0] :: .hb b7 31 q.cells :: .hb b4 31 k.cells :: H) (Ent.trans (by exact ent) Ent.nilS) ?_
  refine sx ?_; refine s_drH (.hb b8 31 [.slice none 0 0, .slice none 0 0] :: .hb b7 31 q.cells :: .hb b4 31 k.cells :: H) (.one true 0 (.one true 2 (.one true 3 (.one true 4 (.one true 5 (.one false 1 (.one false 6 (.one true 7 (.one false 8 .nil))))))))) mixed (by kernel_rfl) ?_; refine sx ?_
  refine s_yA rfl rfl (by exact yy) ?_ (chk_held (by exact ent))
  refine s_app (xs := ([] : List Int)) (ys := k.ps.take i) ?_
  intro a2 c2
  refine sx ?_
  refine s_app (ys := q.ps) ?_
  intro a3 c3
  refine sx ?_
  refine sx ?_; refine s_drH (.hb b8 31 [.slice none 0 0, .slice none 0 0] :: .hb b7 31 q.cells :: .hb b4 31 k.cells :: H) (.one true 0 (.one true 2 (.one true 3 (.one true 4 (.one true 5 (.one false 1 (.one false 6 (.one true 7 (.one false 8 .nil))))))))) mixed (by kernel_rfl) ?_; refine sx ?_
  refine s_yA rfl rfl (by exact yy) ?_ (chk_held (by exact ent))
  refine s_app (ys := k.ps.drop j) ?_
  intro a5 c5
  refine sx ?_
  have hPe : ([] : List Int) ++ k.ps.take i ++ q.ps ++ k.ps.drop j = k.ps.take i ++ q.ps ++ k.ps.drop j := by simp
  rw [hPe]
  generalize hP : k.ps.take i ++ q.ps ++ k.ps.drop j = P
  have hk1 := hk.ks.take (k := i) (by omega)
  clear hps hks hps' hks' hr1 hr2
  have f1 : (k.ks.take i).length = i := by rw [List.length_take]; omega
  have f2 : (k.ks.drop (j - 1)).length = k.ks.length - (j - 1) := List.length_drop
  have hKi : keysB ((k.ks.take i).map SB.xs) ≤ 1099511627776 := Nat.le_trans (by rw [List.map_take]; exact keysB_take k.keys i) (Nat.le_trans h1.2 (by omega))
  have hKd : keysB ((k.ks.drop (j - 1)).map SB.xs) ≤ 1099511627776 := by
    rw [List.map_drop]
    have h3 := keysB_app (k.keys.take (j - 1)) (k.keys.drop (j - 1))
    rw [List.take_append_drop] at h3
    exact Nat.le_trans (Nat.le_trans (Nat.le_add_left _ _) (Nat.le_of_eq h3.symm)) (Nat.le_trans h1.2 (by omega))
  refine sx ?_
  refine s_rw (t := 61) (v' := .slice k.ka (k.ks.take i).length k.kc) rfl (by rw [f1]) ?_
  refine s_call rfl (copies_s (ps := k.ks.take i) (by exact rsl) (fun p hp => RKd.el (k := k) (by exact rkd) p (List.mem_of_mem_take hp)) hKi) ?_
  rintro _ _ ⟨ka1, kc1, ks1, rfl, hks1, rfl⟩
  clear hk1
  refine ⟨chk_seq, ?_⟩
  have g1 : ks1.length = i := by have := congrArg List.length hks1; rw [List.length_map, List.length_map, f1] at this; exact this
  refine sx ?_
  have rk : RKd w0 (.hb b10 31 [.slice a5 P.length c5, .slice ka1 ks1.length kc1] :: ol 23 ka1 kc1 ks1 :: fam 5 ks1 :: ol 3 a5 c5 P :: .hb b8 31 [.slice none 0 0, .slice none 0 0] :: .hb b7 31 q.cells :: .hb b4 31 k.cells :: H) k := by exact rkd
  have rq : RKd w0 (.hb b10 31 [.slice a5 P.length c5, .slice ka1 ks1.length kc1] :: ol 23 ka1 kc1 ks1 :: fam 5 ks1 :: ol 3 a5 c5 P :: .hb b8 31 [.slice none 0 0, .slice none 0 0] :: .hb b7 31 q.cells :: .hb b4 31 k.cells :: H) q := by exact rkd
  refine s_ent (.hb b10 31 [.slice a5 P.length c5, .slice ka1 ks1.length kc1] :: ol 23 ka1 kc1 ks1 :: fam 5 ks1 :: ol 3 a5 c5 P :: .hb b8 31 [.slice none 0 0, .slice none 0 0] :: .hb b7 31 q.cells :: .hb b4 31 k.cells :: H) (by exact ent) ?_
  refine s_cut (fun m : Option Addr × Nat × List SB => [(1, .int .i64 i), (2, .int .i64 j), (4, .pointer (some ⟨b4, 0, none⟩)), (7, .pointer (some ⟨b7, 0, none⟩)), (8, .pointer (some ⟨b8, 0, none⟩)), (10, .pointer (some ⟨b10, 0, none⟩))]) (fun m => .hb b10 31 [.slice a5 P.length c5, .slice m.1 m.2.2.length m.2.1] :: ol 23 m.1 m.2.1 m.2.2 :: fam 5 m.2.2 :: ol 3 a5 c5 P :: .hb b8 31 [.slice none 0 0, .slice none 0 0] :: .hb b7 31 q.cells :: .hb b4 31 k.cells :: H) (fun m => m.2.2.map SB.xs = k.keys.take i ++ q.keys) ?_ ?_
  · refine sx ?_; refine s_drH (.hb b8 31 [.slice none 0 0, .slice none 0 0] :: .hb b7 31 q.cells :: .hb b4 31 k.cells :: H) (.one true 0 (.one true 2 (.one true 3 (.alt (.one false 1 (.one false 4 (.one false 5 (.one true 6 (.one false 7 .nil))))) (.one false 4 (.one false 1 (.one false 5 (.one true 6 (.one false 7 .nil))))))))) mixed (by kernel_rfl) ?_; refine sx ?_
    refine s_alt ?_ ?_
    · refine s_yA rfl rfl (by exact yy) ?_ (chk_held (by exact ent))
      refine s_call rfl (copies_s (ps := q.ks) rq.ks (fun p hp => rq.el p hp) (Nat.le_trans h2.2 (by omega))) ?_
      rintro _ _ ⟨ka2, kc2, ks2, rfl, hks2, rfl⟩
      refine ⟨chk_held (by exact ent), ?_⟩
      have g2 : ks2.length = q.ks.length := by have := congrArg List.length hks2; rw [List.length_map, List.length_map] at this; exact this
      refine s_app (xs := ks1) (ys := ks2) ?_
      intro ka3 kc3
      refine sx ?_
      refine s_mid (ka3, kc3, ks1 ++ ks2) (by simp only [List.map_append, hks1, hks2, List.map_take]) (he := ?_)
      refine Ent.cons (by exact rm) ?_
      refine Ent.cons (by exact rm) ?_
      refine Ent.trans (H' := fam 5 ks1 :: fam 5 ks2 :: ol 3 a5 c5 P :: .hb b8 31 [.slice none 0 0, .slice none 0 0] :: .hb b7 31 q.cells :: .hb b4 31 k.cells :: H) (by exact ent) ?_
      exact fam_app
    · refine s_call rfl (copies_s (ps := q.ks) rq.ks (fun p hp => rq.el p hp) (Nat.le_trans h2.2 (by omega))) ?_
      rintro _ _ ⟨ka2, kc2, ks2, rfl, hks2, rfl⟩
      refine ⟨chk_held (by exact ent), ?_⟩
      have g2 : ks2.length = q.ks.length := by have := congrArg List.length hks2; rw [List.length_map, List.length_map] at this; exact this
      refine s_yA rfl rfl (by exact yy) ?_ (chk_held (by exact ent))
      refine s_app (xs := ks1) (ys := ks2) ?_
      intro ka3 kc3
      refine sx ?_
      refine s_mid (ka3, kc3, ks1 ++ ks2) (by simp only [List.map_append, hks1, hks2, List.map_take]) (he := ?_)
      refine Ent.cons (by exact rm) ?_
      refine Ent.cons (by exact rm) ?_
      refine Ent.trans (H' := fam 5 ks1 :: fam 5 ks2 :: ol 3 a5 c5 P :: .hb b8 31 [.slice none 0 0, .slice none 0 0] :: .hb b7 31 q.cells :: .hb b4 31 k.cells :: H) (by exact ent) ?_
      exact fam_app
  rintro ⟨ka2, kc2, ks2⟩ hks2
  simp only at hks2 ⊢
  clear rk rq
  have g2 : ks2.length = i + q.ks.length := by have := congrArg List.length hks2; rw [List.length_map, List.length_append, List.length_take, List.length_map, List.length_map] at this; omega
  have rk2 : RKd w0 (.hb b10 31 [.slice a5 P.length c5, .slice ka2 ks2.length kc2] :: ol 23 ka2 kc2 ks2 :: fam 5 ks2 :: ol 3 a5 c5 P :: .hb b8 31 [.slice none 0 0, .slice none 0 0] :: .hb b7 31 q.cells :: .hb b4 31 k.cells :: H) k := by exact rkd
  refine sx ?_
  refine s_cut (fun m : Option Addr × Nat × List SB => [(8, .pointer (some ⟨b8, 0, none⟩)), (10, .pointer (some ⟨b10, 0, none⟩))]) (fun m => .hb b10 31 [.slice a5 P.length c5, .slice m.1 m.2.2.length m.2.1] :: ol 23 m.1 m.2.1 m.2.2 :: fam 5 m.2.2 :: ol 3 a5 c5 P :: .hb b8 31 [.slice none 0 0, .slice none 0 0] :: .hb b7 31 q.cells :: .hb b4 31 k.cells :: H) (fun m => m.2.2.map SB.xs = k.keys.take i ++ q.keys ++ k.keys.drop (j - 1)) ?_ ?_
  · refine sx ?_; refine s_drH (.hb b8 31 [.slice none 0 0, .slice none 0 0] :: .hb b7 31 q.cells :: .hb b4 31 k.cells :: H) (.one true 0 (.one true 2 (.one true 3 (.one true 4 (.one true 5 (.one true 6 (.alt (.one false 1 (.one false 7 (.one false 8 (.one true 9 (.one false 10 .nil))))) (.one false 7 (.one false 1 (.one false 8 (.one true 9 (.one false 10 .nil)))))))))))) mixed (by kernel_rfl) ?_; refine sx ?_
    refine s_rw (t := 76) rfl (ci (by omega : _ = ((j - 1 : Nat) : Int))) ?_
    refine sx ?_
    refine s_alt ?_ ?_
    · refine s_yA rfl rfl (by exact yy) ?_ (chk_held (by exact ent))
      refine s_rw (t := 77) (v' := .slice (Sx.sl k.ka k.kc (j - 1) 1) (k.ks.drop (j - 1)).length (k.kc - (j - 1))) rfl (by rw [f2]) ?_
      refine s_call rfl (copies_s (ps := k.ks.drop (j - 1)) (rk2.ks.drop (by omega)) (fun p hp => rk2.el p (List.mem_of_mem_drop hp)) hKd) ?_
      rintro _ _ ⟨ka4, kc4, ks4, rfl, hks4, rfl⟩
      refine ⟨chk_held (by exact ent), ?_⟩
      have g4 : ks4.length = k.ks.length - (j - 1) := by have := congrArg List.length hks4; rw [List.length_map, List.length_map, f2] at this; exact this
      refine s_app (xs := ks2) (ys := ks4) ?_
      intro ka5 kc5
      refine sx ?_
      refine s_mid (ka5, kc5, ks2 ++ ks4) (by simp only [List.map_append, hks2, hks4, List.map_drop]) (he := ?_)
      refine Ent.cons (by exact rm) ?_
      refine Ent.cons (by exact rm) ?_
      refine Ent.trans (H' := fam 5 ks2 :: fam 5 ks4 :: ol 3 a5 c5 P :: .hb b8 31 [.slice none 0 0, .slice none 0 0] :: .hb b7 31 q.cells :: .hb b4 31 k.cells :: H) (by exact ent) ?_
      exact fam_app
    · refine s_rw (t := 77) (v' := .slice (Sx.sl k.ka k.kc (j - 1) 1) (k.ks.drop (j - 1)).length (k.kc - (j - 1))) rfl (by rw [f2]) ?_
      refine s_call rfl (copies_s (ps := k.ks.drop (j - 1)) (rk2.ks.drop (by omega)) (fun p hp => rk2.el p (List.mem_of_mem_drop hp)) hKd) ?_
      rintro _ _ ⟨ka4, kc4, ks4, rfl, hks4, rfl⟩
      refine ⟨chk_held (by exact ent), ?_⟩
      have g4 : ks4.length = k.ks.length - (j - 1) := by have := congrArg List.length hks4; rw [List.length_map, List.length_map, f2] at this; exact this
      refine s_yA rfl rfl (by exact yy) ?_ (chk_held (by exact ent))
      refine s_app (xs := ks2) (ys := ks4) ?_
      intro ka5 kc5
      refine sx ?_
      refine s_mid (ka5, kc5, ks2 ++ ks4) (by simp only [List.map_append, hks2, hks4, List.map_drop]) (he := ?_)
      refine Ent.cons (by exact rm) ?_
      refine Ent.cons (by exact rm) ?_
      refine Ent.trans (H' := fam 5 ks2 :: fam 5 ks4 :: ol 3 a5 c5 P :: .hb b8 31 [.slice none 0 0, .slice none 0 0] :: .hb b7 31 q.cells :: .hb b4 31 k.cells :: H) (by exact ent) ?_
      exact fam_app
  rintro ⟨ka3, kc3, ks3⟩ hks3
  simp only at hks3 ⊢
  refine sx ?_
  refine s_retcv rfl rfl rfl (by exact at_) rfl (repR_0 (k := ⟨a5, c5, P, ka3, kc3, ks3⟩) hok ?_) ?_
  · exact Prod.ext (by rw [← hP]; rfl) hks3
  · exact Ent.oK (k := ⟨a5, c5, P, ka3, kc3, ks3⟩) (by exact rm) (by exact rm) (by exact rm) (by exact ent)
end Go.Sx
