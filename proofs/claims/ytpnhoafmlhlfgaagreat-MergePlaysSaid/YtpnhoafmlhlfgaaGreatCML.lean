/- Part of a proof: the chapter's examples of tellings, walked. -/
import Derived.Test.YtpnhoafmlhlfgaaGreatCMK
import Derived.Test.YtpnhoafmlhlfgaaGreatCMM
import Derived.Test.YtpnhoafmlhlfgaaGreatCGK
namespace Go.Sx
open Go Go.Proofs
set_option maxRecDepth 10000
variable {w0 : World} {H : List Ck}
abbrev mA : List Pp := [([97], [49]), ([99], [51])]
abbrev mB : List Pp := [([97], [57]), ([98], [50])]
abbrev d1 : MD := ⟨0, 2, [99], [], []⟩
abbrev d2 : MD := ⟨0, 1, [98], [], [55]⟩
abbrev rB : T3 := ([98], [98, 0], false)
theorem gx_cv1 : IsCv ([] ++ [saidR d2]) [rB] := cv_of (rs := [rB]) (by decide) (by decide) (by decide)
theorem gx_cv2 : IsCv ([rB] ++ [saidR d1]) [rB, rC] := cv_of (rs := [rB, rC]) (by decide) (by decide) (by decide)
theorem gx_cv3 : IsCv [rC] [rC] := cv_of (rs := [rC]) (by decide) (by decide) (by decide)
abbrev gxP : List PD := [⟨true, [98], [55], t30⟩, ⟨false, [], [], rC⟩]
theorem gx_st : MnSt [d1, d2] [rB, rC] [rC] [⟨true, [98], [55], t30⟩] := by
  have h1 := MnSt.nil.put (m := d2) (by decide) rfl gx_cv1
  have h2 := h1.gone (m := d1) (by decide) gx_cv2
  rw [show ([] : List T3) ++ woR (saidR d1) [rB] = [rC] by decide] at h2
  exact h2
theorem gx_mean : IsMean [d1, d2] gxP := mean_of gx_st gx_cv3 (by decide) (by decide)
theorem gx_with : withL (sdM [d1, d2]) (putsM [d1, d2]) mA = [([97], [49]), ([98], [55])] := by
  rw [putsM_eq gx_mean]
  decide
theorem sm_A : SmL mA := by unfold SmL; decide
theorem sm_B : SmL mB := by unfold SmL; decide
theorem sm_U : SmL [([97], [49]), ([98], [50]), ([99], [51])] := by unfold SmL; decide
theorem sm_W : SmL [([97], [49]), ([98], [55])] := by unfold SmL; decide
theorem gx_un : unionL [mA, mB] = [([97], [49]), ([98], [50]), ([99], [51])] := by decide
theorem map2 {o : List KV} {p q : Pp} (h : o.map KV.p = [p, q]) : ∃ e f : KV, o = [e, f] ∧ e.p = p ∧ f.p = q := by
  rcases o with _ | ⟨e, _ | ⟨f, _ | ⟨g, o⟩⟩⟩ <;> simp at h
  exact ⟨e, f, rfl, h.1, h.2⟩
theorem map3 {o : List KV} {p q r : Pp} (h : o.map KV.p = [p, q, r]) : ∃ e f g : KV, o = [e, f, g] ∧ e.p = p ∧ f.p = q ∧ g.p = r := by
  rcases o with _ | ⟨e, _ | ⟨f, _ | ⟨g, _ | ⟨g2, o⟩⟩⟩⟩ <;> simp at h
  exact ⟨e, f, g, rfl, h.1, h.2.1, h.2.2⟩
theorem kv_of {e : KV} {p : Pp} (h : e.p = p) : e.k = p.1 ∧ e.v = p.2 := by subst h; exact ⟨rfl, rfl⟩
set_option maxHeartbeats 4000000 in
theorem gawake_s : FnS Tryz.prog w0 H 5 #[] (fun v H' => v = .bool true ∧ H' = H) := by
  refine fns_enter (args := []) Tryz.func5 rfl rfl rfl ?_
  refine sx ?_
  refine s_bsl ([97] : List UInt8) rfl rfl fun b7 => ?_
  refine s_convb rfl (by exact at_) ?_
  refine s_bsl ([49] : List UInt8) rfl rfl fun b9 => ?_
  refine s_convb rfl (by exact at_) ?_
  refine sx ?_
  refine s_bsl ([99] : List UInt8) rfl rfl fun b12 => ?_
  refine s_convb rfl (by exact at_) ?_
  refine s_bsl ([51] : List UInt8) rfl rfl fun b14 => ?_
  refine s_convb rfl (by exact at_) ?_
  refine sx ?_
  refine s_bsl [(⟨some ⟨b7, 0, none⟩, 1, [97], some ⟨b9, 0, none⟩, 1, [49]⟩ : KV), ⟨some ⟨b12, 0, none⟩, 1, [99], some ⟨b14, 0, none⟩, 1, [51]⟩] rfl rfl fun b17 => ?_
  refine s_call rfl (Of_s (es := [(⟨some ⟨b7, 0, none⟩, 1, [97], some ⟨b9, 0, none⟩, 1, [49]⟩ : KV), ⟨some ⟨b12, 0, none⟩, 1, [99], some ⟨b14, 0, none⟩, 1, [51]⟩]) (by exact rsl) ?_ (by simp) sm_A) ?_
  · intro e he
    simp only [List.mem_cons, List.not_mem_nil, or_false] at he
    rcases he with rfl | rfl
    · exact ⟨show RBy w0 _ (some ⟨b7, 0, none⟩) ([97] : Bs).length [97] by exact rby, show RBy w0 _ (some ⟨b9, 0, none⟩) ([49] : Bs).length [49] by exact rby⟩
    · exact ⟨show RBy w0 _ (some ⟨b12, 0, none⟩) ([99] : Bs).length [99] by exact rby, show RBy w0 _ (some ⟨b14, 0, none⟩) ([51] : Bs).length [51] by exact rby⟩
  rintro _ _ ⟨u1, ua1, uc1, o1, rfl, ho1, rfl⟩
  refine ⟨chk_seq, ?_⟩
  have ho1 : o1.map KV.p = mA := ho1
  have hA : TvC Tryz.prog w0 (ofG u1 ua1 uc1 o1) (.func (.func 43) #[] #[.pointer (some ⟨u1, 0, none⟩)]) mA := by
    rw [← ho1]
    exact ⟨43, [.pointer (some ⟨u1, 0, none⟩)], rfl, inferInstance, of_tell (by rw [ho1]; exact sm_A)⟩
  refine s_entL (ofG u1 ua1 uc1 o1 :: H) (by exact ent) ?_
  refine sx ?_
  refine s_bsl ([97] : List UInt8) rfl rfl fun b19 => ?_
  refine s_convb rfl (by exact at_) ?_
  refine s_bsl ([57] : List UInt8) rfl rfl fun b21 => ?_
  refine s_convb rfl (by exact at_) ?_
  refine sx ?_
  refine s_bsl ([98] : List UInt8) rfl rfl fun b24 => ?_
  refine s_convb rfl (by exact at_) ?_
  refine s_bsl ([50] : List UInt8) rfl rfl fun b26 => ?_
  refine s_convb rfl (by exact at_) ?_
  refine sx ?_
  refine s_bsl [(⟨some ⟨b19, 0, none⟩, 1, [97], some ⟨b21, 0, none⟩, 1, [57]⟩ : KV), ⟨some ⟨b24, 0, none⟩, 1, [98], some ⟨b26, 0, none⟩, 1, [50]⟩] rfl rfl fun b29 => ?_
  refine s_call rfl (Of_s (es := [(⟨some ⟨b19, 0, none⟩, 1, [97], some ⟨b21, 0, none⟩, 1, [57]⟩ : KV), ⟨some ⟨b24, 0, none⟩, 1, [98], some ⟨b26, 0, none⟩, 1, [50]⟩]) (by exact rsl) ?_ (by simp) sm_B) ?_
  · intro e he
    simp only [List.mem_cons, List.not_mem_nil, or_false] at he
    rcases he with rfl | rfl
    · exact ⟨show RBy w0 _ (some ⟨b19, 0, none⟩) ([97] : Bs).length [97] by exact rby, show RBy w0 _ (some ⟨b21, 0, none⟩) ([57] : Bs).length [57] by exact rby⟩
    · exact ⟨show RBy w0 _ (some ⟨b24, 0, none⟩) ([98] : Bs).length [98] by exact rby, show RBy w0 _ (some ⟨b26, 0, none⟩) ([50] : Bs).length [50] by exact rby⟩
  rintro _ _ ⟨u2, ua2, uc2, o2, rfl, ho2, rfl⟩
  refine ⟨chk_seq, ?_⟩
  have ho2 : o2.map KV.p = mB := ho2
  have hB : TvC Tryz.prog w0 (ofG u2 ua2 uc2 o2) (.func (.func 43) #[] #[.pointer (some ⟨u2, 0, none⟩)]) mB := by
    rw [← ho2]
    exact ⟨43, [.pointer (some ⟨u2, 0, none⟩)], rfl, inferInstance, of_tell (by rw [ho2]; exact sm_B)⟩
  refine s_entL (ofG u2 ua2 uc2 o2 :: ofG u1 ua1 uc1 o1 :: H) (by exact ent) ?_
  obtain ⟨GA, hGA⟩ : ∃ g, g = ofG u1 ua1 uc1 o1 := ⟨_, rfl⟩
  obtain ⟨GB, hGB⟩ : ∃ g, g = ofG u2 ua2 uc2 o2 := ⟨_, rfl⟩
  rw [← hGA] at hA ⊢
  rw [← hGB] at hB ⊢
  refine sx ?_
  refine s_bsl [(⟨some (43, [.pointer (some ⟨u1, 0, none⟩)])⟩ : Fu), ⟨some (43, [.pointer (some ⟨u2, 0, none⟩)])⟩] rfl rfl fun b39 => ?_
  refine s_call rfl (union_s (fs := [(⟨some (43, [.pointer (some ⟨u1, 0, none⟩)])⟩ : Fu), ⟨some (43, [.pointer (some ⟨u2, 0, none⟩)])⟩]) (by exact rsl) (by simp)) ?_
  rintro _ _ ⟨u3, ua3, uc3, rfl, rfl⟩
  refine ⟨chk_seq, ?_⟩
  have hU : TvC Tryz.prog w0 (uG u3 ua3 uc3 [(⟨some (43, [.pointer (some ⟨u1, 0, none⟩)])⟩ : Fu), ⟨some (43, [.pointer (some ⟨u2, 0, none⟩)])⟩] (.star [GA, GB])) (.func (.func 63) #[] #[.pointer (some ⟨u3, 0, none⟩)]) [([97], [49]), ([98], [50]), ([99], [51])] := by
    rw [← gx_un]
    refine ⟨63, [.pointer (some ⟨u3, 0, none⟩)], rfl, inferInstance, union_tell rfl (by simp) ?_⟩
    intro i f l hf hl
    match i, hf, hl with
    | 0, hf, hl =>
      cases hf
      cases hl
      exact ⟨by simp, sm_A, true, fun _ => .star [GA, GB], .star [GA, GB], .inr hA.fst⟩
    | 1, hf, hl =>
      cases hf
      cases hl
      exact ⟨by simp, sm_B, true, fun _ => .star [GA, GB], .star [GA, GB], .inr hB.snd⟩
  obtain ⟨GU, hGU⟩ : ∃ g, g = uG u3 ua3 uc3 [(⟨some (43, [.pointer (some ⟨u1, 0, none⟩)])⟩ : Fu), ⟨some (43, [.pointer (some ⟨u2, 0, none⟩)])⟩] (.star [GA, GB]) := ⟨_, rfl⟩
  refine s_entL (GU :: H) ?_ ?_
  · rw [hGU]
    refine Ent.star ?_
    refine Ent.cons (by exact rm) (Ent.cons (by exact rm) ?_)
    exact Ent.star (L := [GA, GB]) (by exact ent)
  rw [← hGU] at hU
  refine sx ?_
  refine s_bsl ([99] : List UInt8) rfl rfl fun b42 => ?_
  refine s_convb rfl (by exact at_) ?_
  refine sx ?_
  refine s_bsl ([98] : List UInt8) rfl rfl fun b45 => ?_
  refine s_convb rfl (by exact at_) ?_
  refine s_bsl ([55] : List UInt8) rfl rfl fun b47 => ?_
  refine s_convb rfl (by exact at_) ?_
  refine sx ?_
  refine s_bsl [(⟨0, 2, some ⟨b42, 0, none⟩, 1, [99], none, 0, [], none, 0, []⟩ : Mg), ⟨0, 1, some ⟨b45, 0, none⟩, 1, [98], none, 0, [], some ⟨b47, 0, none⟩, 1, [55]⟩] rfl rfl fun b50 => ?_
  refine s_call rfl (with_s rfl (ms := [(⟨0, 2, some ⟨b42, 0, none⟩, 1, [99], none, 0, [], none, 0, []⟩ : Mg), ⟨0, 1, some ⟨b45, 0, none⟩, 1, [98], none, 0, [], some ⟨b47, 0, none⟩, 1, [55]⟩]) ⟨by exact rsl, ?_⟩ (by simp) ?_) ?_
  · intro m hm
    simp only [List.mem_cons, List.not_mem_nil, or_false] at hm
    rcases hm with rfl | rfl
    · exact ⟨show RBy w0 _ (some ⟨b42, 0, none⟩) ([99] : Bs).length [99] by exact rby, RBy.nil, RBy.nil⟩
    · exact ⟨show RBy w0 _ (some ⟨b45, 0, none⟩) ([98] : Bs).length [98] by exact rby, RBy.nil, show RBy w0 _ (some ⟨b47, 0, none⟩) ([55] : Bs).length [55] by exact rby⟩
  · intro m hm
    simp only [List.mem_cons, List.not_mem_nil, or_false] at hm
    rcases hm with rfl | rfl <;> simp
  rintro _ _ ⟨u4, u5, ua5, uc5, ls, rfl, hls, rfl⟩
  refine ⟨chk_seq, ?_⟩
  have hls : ls.map Mg.d = [d1, d2] := hls
  have hlsz : ∀ m ∈ ls, m.lo.length ≤ 140737488355327 ∧ m.hi.length ≤ 140737488355328 ∧ m.v.length ≤ 140737488355328 := by
    intro m hm
    have : m.d ∈ [d1, d2] := by rw [← hls]; exact List.mem_map_of_mem hm
    have h2 : ∀ d ∈ [d1, d2], d.lo.length ≤ 140737488355327 ∧ d.hi.length ≤ 140737488355328 ∧ d.v.length ≤ 140737488355328 := by decide
    exact h2 _ this
  have hlsl : ls.length = 2 := by simpa using congrArg List.length hls
  have hW : TvC Tryz.prog w0 (wiG u4 u5 (.func (.func 43) #[] #[.pointer (some ⟨u1, 0, none⟩)]) ua5 uc5 ls GA) (.func (.func 44) #[] #[.pointer (some ⟨u5, 0, none⟩), .pointer (some ⟨u4, 0, none⟩)]) [([97], [49]), ([98], [55])] := by
    rw [← gx_with, ← hls]
    refine ⟨44, [.pointer (some ⟨u5, 0, none⟩), .pointer (some ⟨u4, 0, none⟩)], rfl, inferInstance, ?_⟩
    have h := with_tell (b2 := u4) (b5 := u5) (a := ua5) (c := uc5) (.inr hA) sm_A (by omega) hlsz
    have e : (fun u => wiG u4 u5 (.func (.func 43) #[] #[.pointer (some ⟨u1, 0, none⟩)]) ua5 uc5 ls (fam2 GA (fun _ => GA) u)) = fun _ => wiG u4 u5 (.func (.func 43) #[] #[.pointer (some ⟨u1, 0, none⟩)]) ua5 uc5 ls GA := by
      funext u
      cases u <;> rfl
    rw [e] at h
    exact h
  refine s_entL (GU :: (wiL u4 u5 (.func (.func 43) #[] #[.pointer (some ⟨u1, 0, none⟩)]) ua5 uc5 ls ++ H)) (by exact ent) ?_
  refine sx ?_
  refine s_call rfl (all_s (most := -1) (.inr hU) (by simp) sm_U) ?_
  rintro _ _ ⟨x5, y5, o5, rfl, h5, rfl⟩
  rw [tk_all] at h5
  refine ⟨chk_seq, ?_⟩
  rw [allG_same]
  refine s_entL (wiG u4 u5 (.func (.func 43) #[] #[.pointer (some ⟨u1, 0, none⟩)]) ua5 uc5 ls GA :: GB :: ol 51 x5 y5 o5 :: stars oKVs o5 :: H) ?_ ?_
  · refine Ent.trans (H' := GU :: (wiL u4 u5 (.func (.func 43) #[] #[.pointer (some ⟨u1, 0, none⟩)]) ua5 uc5 ls ++ ol 51 x5 y5 o5 :: stars oKVs o5 :: H)) (by exact ent) ?_
    rw [hGU]
    refine Ent.open ?_
    refine Ent.tl (Ent.tl ?_)
    refine Ent.open ?_
    refine Ent.star ?_
    exact ent
  refine sx ?_
  refine s_call rfl (all_s (most := -1) (.inr hW) (by simp) sm_W) ?_
  rintro _ _ ⟨x6, y6, o6, rfl, h6, rfl⟩
  rw [tk_all] at h6
  refine ⟨chk_seq, ?_⟩
  rw [allG_same]
  refine s_entL (GA :: GB :: ol 51 x5 y5 o5 :: stars oKVs o5 :: ol 51 x6 y6 o6 :: stars oKVs o6 :: H) ?_ ?_
  · refine Ent.trans (H' := wiG u4 u5 (.func (.func 43) #[] #[.pointer (some ⟨u1, 0, none⟩)]) ua5 uc5 ls GA :: GB :: ol 51 x5 y5 o5 :: stars oKVs o5 :: ol 51 x6 y6 o6 :: stars oKVs o6 :: H) (by exact ent) ?_
    exact Ent.open (Ent.tl (Ent.tl (Ent.tl (Ent.tl Ent.refl))))
  obtain ⟨e0, e1, e2, rfl, k0, k1, k2⟩ := map3 h5
  obtain ⟨f0, f1, rfl, q0, q1⟩ := map2 h6
  have r0 : REe w0 (stars oKVs [e0, e1, e2] :: ol 51 x6 y6 [f0, f1] :: stars oKVs [f0, f1] :: H) e0 := REe.st (by simp)
  have r1 : REe w0 (stars oKVs [e0, e1, e2] :: ol 51 x6 y6 [f0, f1] :: stars oKVs [f0, f1] :: H) e1 := REe.st (by simp)
  have r2 : REe w0 (stars oKVs [e0, e1, e2] :: ol 51 x6 y6 [f0, f1] :: stars oKVs [f0, f1] :: H) e2 := REe.st (by simp)
  have s1 : REe w0 (stars oKVs [f0, f1] :: H) f1 := REe.st (by simp)
  obtain ⟨a0, c0, g0, va0, vc0, v0⟩ := e0
  obtain ⟨a1, c1, g1, va1, vc1, v1⟩ := e1
  obtain ⟨a2, c2, g2, va2, vc2, v2⟩ := e2
  obtain ⟨fa1, fc1, fg1, fva1, fvc1, fv1⟩ := f1
  obtain ⟨rfl, rfl⟩ : g0 = [97] ∧ v0 = [49] := kv_of k0
  obtain ⟨rfl, rfl⟩ : g1 = [98] ∧ v1 = [50] := kv_of k1
  obtain ⟨rfl, rfl⟩ : g2 = [99] ∧ v2 = [51] := kv_of k2
  obtain ⟨rfl, rfl⟩ : fg1 = [98] ∧ fv1 = [55] := kv_of q1
  have r0v := r0.v
  have r1k := r1.k
  have r2k := r2.k
  have s1v := s1.v
  have hl5 : ([⟨a0, c0, [97], va0, vc0, [49]⟩, ⟨a1, c1, [98], va1, vc1, [50]⟩, ⟨a2, c2, [99], va2, vc2, [51]⟩] : List KV).length = 3 := rfl
  have hl6 : ([f0, ⟨fa1, fc1, [98], fva1, fvc1, [55]⟩] : List KV).length = 2 := rfl
  refine sx ?_
  refine s_call rfl (same_s (.inr hA) (.inr hA) (by simp) sm_A) ?_
  rintro _ _ ⟨rfl, rfl⟩
  rw [show decide (mA = mA) = true from by decide]
  refine ⟨chk_seq, ?_⟩
  refine sx ?_
  refine s_entL (.star [GA, GB] :: H) (Ent.star (L := [GA, GB]) (by exact ent)) ?_
  refine s_call rfl (same_s (.inr (TvC.fst (R := [GB]) hA)) (.inr (TvC.snd (R := []) hB)) (by simp) sm_B) ?_
  rintro _ _ ⟨rfl, rfl⟩
  rw [show decide (mA = mB) = false from by decide]
  refine ⟨chk_seq, ?_⟩
  refine sx ?_
  exact s_ret1 rfl rfl ⟨rfl, rfl⟩
end Go.Sx

