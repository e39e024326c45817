/- Part of a proof: MergeAny, walked. -/
import Derived.Test.YtpnhoafmlhlfgaaCMZ
import Derived.Test.YtpnhoafmlhlfgaaCMY
import Derived.Test.YtpnhoafmlhlfgaaCPB
import Derived.Test.YtpnhoafmlhlfgaaCZGj
import Derived.Test.YtpnhoafmlhlfgaaCMU
namespace Go.Sx
open Go Go.Proofs
set_option maxRecDepth 10000
variable {w0 : World} {H : List Ck}
abbrev vn0 : Value := .slice none 0 0
def ob00 (k : Nat) : Ob := ⟨k, [vn0, vn0, .int .i64 0], none, 0, [], none, 0, []⟩
theorem ob00_wd {k : Nat} : Wd (ob00 k) 0 vn0 vn0 := ⟨⟨rfl, Nat.le_refl _, fun s h => by cases h⟩, 0, rfl⟩
theorem ob00_ent {k : Nat} {H : List Ck} : Ent (.hb k 50 [vn0, vn0, vn0, vn0, .int .i64 0] :: H) ((ob00 k).ck :: H) := by
  refine Ent.star ?_
  refine Ent.head ?_
  exact Ent.nilS.trans (Ent.head (Ent.nilS.trans (Ent.head fam_nil)))
set_option maxHeartbeats 4000000 in
theorem gany_s {a b : Option Addr} {c d : Nat} {ls ms : List KV} {most : Int} (hx : RSl w0 H a c ls) (hr : ∀ e ∈ ls, REe w0 H e) (hxm : RSl w0 H b d ms) (hrm : ∀ e ∈ ms, REe w0 H e)
    (hy : ∀ e ∈ ls, e.k.length ≤ 140737488355328 ∧ e.v.length ≤ 140737488355328) (hym : ∀ e ∈ ms, e.k.length ≤ 140737488355328 ∧ e.v.length ≤ 140737488355328) :
    FnS Try.prog w0 H 5 #[.slice a ls.length c, .slice b ms.length d, .int .i64 most] (fun v H' => v = .bool true ∧ H' = H) := by
  refine fns_enter Try.func5 rfl rfl rfl ?_
  refine sx ?_
  refine s_callV rfl gawake_s ?_
  refine sx ?_
  refine s_call rfl (gentries_s hx hy) ?_
  rintro _ H2 ⟨x1, rfl, hx1, hx2, hH⟩
  rw [hH]
  clear hH
  refine ⟨chk_seq, ?_⟩
  refine sx ?_
  refine s_lif rfl (fun t1 => ?_) (fun t1 => ?_)
  · refine sx ?_
    exact s_ret1 rfl rfl ⟨rfl, rfl⟩
  refine sx ?_
  refine s_call rfl (gentries_s hxm hym) ?_
  rintro _ H2 ⟨x2, rfl, hx3, hx4, hH⟩
  rw [hH]
  clear hH
  refine ⟨chk_seq, ?_⟩
  refine sx ?_
  refine s_if rfl (fun t2 => ?_) (fun t2 => ?_)
  · refine sx ?_
    exact s_ret1 rfl rfl ⟨rfl, rfl⟩
  have hz1 : sumG ls ≤ 2147483647 := by have := hx2 (by omega); omega
  have hz2 : sumG ms ≤ 2147483647 := by have := hx4 (by omega); omega
  have hl1 := sumG_len ls
  have hl2 := sumG_len ms
  have hyL : ∀ e ∈ ls, e.k.length ≤ 2147483647 ∧ e.v.length ≤ 2147483647 := fun e he => by
    have := sumG_mem he
    omega
  have hyM : ∀ e ∈ ms, e.k.length ≤ 2147483647 ∧ e.v.length ≤ 2147483647 := fun e he => by
    have := sumG_mem he
    omega
  have smL : SmL (ls.map KV.p) := fun p hp => by
    obtain ⟨e, he, rfl⟩ := List.mem_map.1 hp
    exact hy e he
  have smM : SmL (ms.map KV.p) := fun p hp => by
    obtain ⟨e, he, rfl⟩ := List.mem_map.1 hp
    exact hym e he
  clear hx1 hx2 hx3 hx4 t1 t2
  refine sx ?_
  refine s_boxA (cs := [vn0, vn0, vn0, vn0, .int .i64 0]) rfl fun b8 => ?_
  refine s_entL ((ob00 b8).ck :: H) ob00_ent ?_
  refine sx ?_
  refine s_call rfl (lentE_s hx.tl (fun e he => (hr e he).tl) (by omega) (fun e he => by have := hyL e he; omega)) ?_
  rintro _ _ ⟨a1, c1, fs, mb, rfl, hfs, rfl⟩
  refine ⟨chk_seq, ?_⟩
  have hfl : fs.length = ls.length := by simpa using congrArg List.length hfs
  have hlb : (fs ++ [bhE mb]).length = fs.length + 1 := by simp
  have hsf : RSl w0 (.star (lEs a1 c1 fs mb) :: (ob00 b8).ck :: H) a1 c1 fs := by
    have := (RSl.hd (w0 := w0) (E := 36) (a := a1) (c := c1) (xs := fs ++ [bhE mb]) (H := stars lE fs :: .ro mb (flat bhB) :: (ob00 b8).ck :: H)).take (k := fs.length) (by omega)
    rw [List.take_left' rfl] at this
    exact this.ent (Ent.open Ent.refl)
  have hrf : ∀ e ∈ fs, REe w0 (.star (lEs a1 c1 fs mb) :: (ob00 b8).ck :: H) e := fun e he => (lE_st he).tl.ent (H' := ol 36 a1 c1 (fs ++ [bhE mb]) :: stars lE fs :: .ro mb (flat bhB) :: (ob00 b8).ck :: H) (Ent.open Ent.refl)
  refine sx ?_
  refine s_call rfl (Of_s hsf hrf (by omega) (by rw [hfs]; exact smL)) ?_
  rintro _ _ ⟨u1, ua1, uc1, o1, rfl, ho1, rfl⟩
  refine ⟨chk_seq, ?_⟩
  have ho1 : o1.map KV.p = ls.map KV.p := by rw [ho1, hfs]
  have hA : TvC Try.prog w0 (ofG u1 ua1 uc1 o1) (.func (.func 27) #[] #[.pointer (some ⟨u1, 0, none⟩)]) (ls.map KV.p) := by
    rw [← ho1]
    exact ⟨27, [.pointer (some ⟨u1, 0, none⟩)], rfl, inferInstance, of_tell (by rw [ho1]; exact smL)⟩
  obtain ⟨GA, hGA⟩ : ∃ g, g = ofG u1 ua1 uc1 o1 := ⟨_, rfl⟩
  rw [← hGA] at hA ⊢
  refine s_entL (.star (lEs a1 c1 fs mb) :: GA :: (ob00 b8).ck :: H) (by exact ent) ?_
  refine sx ?_
  refine s_call rfl (keptE_s (hx.tl.tl) (fun e he => (hr e he).tl.tl) hfs) ?_
  rintro _ _ ⟨rfl, rfl⟩
  refine ⟨chk_seq, ?_⟩
  clear hsf hrf
  refine s_entL (GA :: (ob00 b8).ck :: H) (Ent.tl Ent.refl) ?_
  refine sx ?_
  refine s_call rfl (Of_s hxm.tl.tl (fun e he => (hrm e he).tl.tl) (by omega) smM) ?_
  rintro _ _ ⟨u2, ua2, uc2, o2, rfl, ho2, rfl⟩
  refine ⟨chk_seq, ?_⟩
  have hB : TvC Try.prog w0 (ofG u2 ua2 uc2 o2) (.func (.func 27) #[] #[.pointer (some ⟨u2, 0, none⟩)]) (ms.map KV.p) := by
    rw [← ho2]
    exact ⟨27, [.pointer (some ⟨u2, 0, none⟩)], rfl, inferInstance, of_tell (by rw [ho2]; exact smM)⟩
  obtain ⟨GB, hGB⟩ : ∃ g, g = ofG u2 ua2 uc2 o2 := ⟨_, rfl⟩
  rw [← hGB] at hB ⊢
  clear hGA hGB ho1 ho2
  have hzL : ∀ e ∈ ls, e.k.length ≤ 140737488351232 ∧ e.v.length ≤ 140737488351232 := fun e he => by have := hyL e he; omega
  refine s_entL (GA :: (ob00 b8).ck :: GB :: H) (by exact ent) ?_
  refine sx ?_
  refine s_call rfl (told_s (most := -1) (ob00_wd (k := b8)) hA hx.tl (fun e he => (hr e he).tl) hzL (by omega)) ?_
  rintro _ _ ⟨rfl, B1, k1, w1, rfl⟩
  refine ⟨chk_seq, ?_⟩
  rw [show tkG (-1) ls.length GA GA = GA by simp [tkG]]
  have k1 : B1.k = b8 := k1
  refine sx ?_
  refine s_rw (t := 68) (v' := .pointer (some ⟨B1.k, 0, none⟩)) rfl (by rw [k1]) ?_
  refine s_call rfl (toldIn_s (most := most) (inner := 0) w1 hA hx.tl (fun e he => (hr e he).tl) hzL (by omega) (fun _ => ⟨_, hA⟩)) ?_
  rintro _ _ ⟨rfl, B2, k2, w2, rfl⟩
  refine ⟨chk_seq, ?_⟩
  rw [show tkG most ls.length GA GA = GA by simp [tkG]]
  have k2 : B2.k = b8 := by rw [k2, k1]
  refine sx ?_
  refine s_alloc fun b15 => ?_
  refine sx ?_
  refine s_call rfl (check_s (p := some ⟨b15, 0, none⟩) rfl) ?_
  rintro _ _ ⟨c2, c3, rfl, rfl⟩
  refine ⟨chk_seq, ?_⟩
  refine sx ?_
  refine s_call rfl (check_s (p := none) rfl) ?_
  rintro _ _ ⟨q2, q3, rfl, rfl⟩
  refine ⟨chk_seq, ?_⟩
  refine sx ?_
  refine s_call rfl (g13check_s (es := ls) (by exact rsl) ?_ (by omega) smL) ?_
  · intro e he
    exact (hr e he).tl.tl.tl.tl.tl.tl.tl.tl
  rintro _ _ ⟨n, wa, wc, ws, hn, rfl, hws, rfl⟩
  refine ⟨chk_seq, ?_⟩
  obtain ⟨f, hf⟩ : ∃ f : Int, f = (if n = ls.length then 0 else 131) := ⟨_, rfl⟩
  rw [← hf]
  refine sx ?_
  have hC : TvF Try.prog w0 true (ckE c2 c3 b15 (.func (.func 27) #[] #[.pointer (some ⟨u1, 0, none⟩)]) 1 GA) (fun _ => ckE c2 c3 b15 (.func (.func 27) #[] #[.pointer (some ⟨u1, 0, none⟩)]) 0 GA) (ckE c2 c3 b15 (.func (.func 27) #[] #[.pointer (some ⟨u1, 0, none⟩)]) f GA) (ckE c2 c3 b15 (.func (.func 27) #[] #[.pointer (some ⟨u1, 0, none⟩)]) 0 GA) (.func (.func 40) #[] #[.pointer (some ⟨c3, 0, none⟩), .pointer (some ⟨c2, 0, none⟩)]) (ws.map KV.p) := by
    refine ⟨40, [.pointer (some ⟨c3, 0, none⟩), .pointer (some ⟨c2, 0, none⟩)], rfl, inferInstance, ?_⟩
    have h := check_tellE (b2 := c2) (b3 := c3) (eb := b15) (e0 := 1) (.inr hA) smL hn
    rw [List.length_map, ← hf, ← hws] at h
    exact h
  have hQ : TvC Try.prog w0 (ckQ q2 q3 (.func (.func 27) #[] #[.pointer (some ⟨u1, 0, none⟩)]) GA) (.func (.func 40) #[] #[.pointer (some ⟨q3, 0, none⟩), .pointer (some ⟨q2, 0, none⟩)]) (ws.map KV.p) := by
    refine ⟨40, [.pointer (some ⟨q3, 0, none⟩), .pointer (some ⟨q2, 0, none⟩)], rfl, inferInstance, ?_⟩
    have h := check_tellQ (b2 := q2) (b3 := q3) (.inr hA) smL hn
    rw [← hws] at h
    exact h
  have hwl : ws.length ≤ ls.length := by
    have := congrArg List.length hws
    simp only [List.length_map, List.length_take] at this
    omega
  have hzW : ∀ e ∈ ws, e.k.length ≤ 140737488351232 ∧ e.v.length ≤ 140737488351232 := fun e he => by
    have h1 : e.p ∈ (ls.map KV.p).take n := by rw [← hws]; exact List.mem_map_of_mem he
    obtain ⟨e', he', h2⟩ := List.mem_map.1 (List.mem_of_mem_take h1)
    have h3 := hzL e' he'
    simp only [KV.p, Prod.mk.injEq] at h2
    rw [← h2.1, ← h2.2]
    exact h3
  refine s_entL (ckE c2 c3 b15 (.func (.func 27) #[] #[.pointer (some ⟨u1, 0, none⟩)]) 1 GA :: B2.ck :: oL wa wc ws (.hb q2 29 [(.func (.func 27) #[] #[.pointer (some ⟨u1, 0, none⟩)])] :: .hb q3 54 [.pointer none] :: GB :: H)) ?_ ?_
  · refine Ent.star (L := [.hb c2 29 [(.func (.func 27) #[] #[.pointer (some ⟨u1, 0, none⟩)])], .hb c3 54 [.pointer (some ⟨b15, 0, none⟩)], .hb b15 52 [.int .i64 1], GA]) ?_
    exact ent
  refine s_rw (t := 92) (v' := .pointer (some ⟨B2.k, 0, none⟩)) rfl (by rw [k2]) ?_
  refine s_call rfl (told_s (most := -1) w2 hC RSl.hd (fun e he => (REe.st he).tl) hzW (by omega)) ?_
  rintro _ _ ⟨rfl, B3, k3, w3, rfl⟩
  refine ⟨chk_seq, ?_⟩
  rw [show tkG (-1) ws.length (ckE c2 c3 b15 (.func (.func 27) #[] #[.pointer (some ⟨u1, 0, none⟩)]) f GA) (ckE c2 c3 b15 (.func (.func 27) #[] #[.pointer (some ⟨u1, 0, none⟩)]) 0 GA) = ckE c2 c3 b15 (.func (.func 27) #[] #[.pointer (some ⟨u1, 0, none⟩)]) f GA by simp [tkG]]
  have k3 : B3.k = b8 := by rw [k3, k2]
  refine s_entL (.hb b15 52 [.int .i64 f] :: ckQ q2 q3 (.func (.func 27) #[] #[.pointer (some ⟨u1, 0, none⟩)]) GA :: B3.ck :: oL wa wc ws (GB :: H)) ?_ ?_
  · refine Ent.open ?_
    show Ent (.hb c2 29 [(.func (.func 27) #[] #[.pointer (some ⟨u1, 0, none⟩)])] :: .hb c3 54 [.pointer (some ⟨b15, 0, none⟩)] :: .hb b15 52 [.int .i64 f] :: GA :: B3.ck :: oL wa wc ws (.hb q2 29 [(.func (.func 27) #[] #[.pointer (some ⟨u1, 0, none⟩)])] :: .hb q3 54 [.pointer none] :: GB :: H)) _
    refine Ent.cons (by exact rm) ?_
    refine Ent.star (L := [.hb q2 29 [(.func (.func 27) #[] #[.pointer (some ⟨u1, 0, none⟩)])], .hb q3 54 [.pointer none], GA]) ?_
    exact ent
  refine sx ?_
  refine s_rw (t := 97) (v' := .pointer (some ⟨B3.k, 0, none⟩)) rfl (by rw [k3]) ?_
  refine s_entL (ckQ q2 q3 (.func (.func 27) #[] #[.pointer (some ⟨u1, 0, none⟩)]) GA :: B3.ck :: oL wa wc ws (GB :: H)) (by exact ent) ?_
  refine s_call rfl (told_s (most := -1) w3 hQ RSl.hd (fun e he => (REe.st he).tl) hzW (by omega)) ?_
  rintro _ _ ⟨rfl, B4, k4, w4, rfl⟩
  refine ⟨chk_seq, ?_⟩
  rw [show tkG (-1) ws.length (ckQ q2 q3 (.func (.func 27) #[] #[.pointer (some ⟨u1, 0, none⟩)]) GA) (ckQ q2 q3 (.func (.func 27) #[] #[.pointer (some ⟨u1, 0, none⟩)]) GA) = ckQ q2 q3 (.func (.func 27) #[] #[.pointer (some ⟨u1, 0, none⟩)]) GA by simp [tkG]]
  have k4 : B4.k = b8 := by rw [k4, k3]
  clear k1 k2 k3 w1 w2 w3
  refine s_entL (.star [GA, GB] :: B4.ck :: H) ?_ ?_
  · refine Ent.open ?_
    refine Ent.star (L := [GA, GB]) ?_
    exact ent
  refine sx ?_
  refine s_callV rfl (g13same_s (hx.tl.tl) (fun e he => (hr e he).tl.tl) hxm.tl.tl (fun e he => (hrm e he).tl.tl)) ?_
  refine sx ?_
  refine s_call rfl (same_s (.inr (TvC.fst (R := [GB]) hA)) (.inr (TvC.snd (R := []) hB)) (by simp; omega) smM) ?_
  rintro _ _ ⟨rfl, rfl⟩
  refine ⟨chk_seq, ?_⟩
  refine sx ?_
  refine s_gT rfl (by simp) ?_
  refine sx ?_
  refine s_call rfl (same_s (.inr (TvC.snd (R := []) hB)) (.inr (TvC.fst (R := [GB]) hA)) (by simp; omega) smL) ?_
  rintro _ _ ⟨rfl, rfl⟩
  refine ⟨chk_seq, ?_⟩
  refine sx ?_
  refine s_gT rfl (by rw [beq_iff_eq]; exact decide_eq_decide.2 eq_comm) ?_
  refine sx ?_
  refine s_call rfl (same_s (.inr (TvC.fst (R := [GB]) hA)) (.inr (TvC.fst (R := [GB]) hA)) (by simp; omega) smL) ?_
  rintro _ _ ⟨rfl, rfl⟩
  refine ⟨chk_seq, ?_⟩
  refine sx ?_
  refine s_gT rfl (by simp) ?_
  refine sx ?_
  refine s_call rfl (same_s (o' := true) (gm' := fun _ => .star [GA, GB]) (g2' := .star [GA, GB]) (Lb := []) (.inr (TvC.fst (R := [GB]) hA)) (.inl ⟨rfl, rfl, rfl⟩) (by simp) (fun _ h => by cases h)) ?_
  rintro _ _ ⟨rfl, rfl⟩
  refine ⟨chk_seq, ?_⟩
  refine sx ?_
  refine s_rw (t := 24) (v' := .bool true) rfl (congrArg Value.bool (by rw [beq_iff_eq]; exact decide_eq_decide.2 (by cases ls <;> simp <;> omega))) ?_
  refine s_entL (GA :: GB :: B4.ck :: H) (Ent.open Ent.refl) ?_
  refine sx ?_
  refine s_call rfl (all_s (most := most) (.inr hA) (by simp; omega) smL) ?_
  rintro _ _ ⟨x5, y5, o5, rfl, h5, rfl⟩
  rw [allG_same]
  refine ⟨chk_seq, ?_⟩
  refine sx ?_
  refine s_call rfl (g13all_s (most := most) (hx.tl.tl.tl.tl.tl) (fun e he => (hr e he).tl.tl.tl.tl.tl) (by omega) smL) ?_
  rintro _ _ ⟨x6, y6, o6, rfl, h6, rfl⟩
  refine ⟨chk_seq, ?_⟩
  refine sx ?_
  refine s_callV rfl (gsameE_s (xs := o5) (ys := o6) RSl.hd.tl.tl (fun e he => (REe.st he).tl.tl.tl) RSl.hd (fun e he => (REe.st he).tl)) ?_
  rw [show decide (o5.map KV.p = o6.map KV.p) = true by rw [h5, h6]; simp]
  refine s_entL (GA :: B4.ck :: H) (by exact ent) ?_
  refine sx ?_
  refine s_call rfl (all_s (o := true) (g0 := GA) (g1 := GA) (g2 := GA) (gm := fun _ => GA) (L := []) (most := most) (.inl ⟨rfl, rfl, rfl⟩) (by simp) (fun _ h => by cases h)) ?_
  rintro _ _ ⟨x7, y7, o7, rfl, h7, rfl⟩
  rw [allG_same]
  refine ⟨chk_seq, ?_⟩
  have h7 : o7 = [] := by
    have := congrArg List.length h7
    rw [List.length_map] at this
    exact List.length_eq_zero_iff.1 (by rw [this]; unfold tk; split <;> simp)
  subst h7
  refine s_entL (B4.ck :: H) (by exact ent) ?_
  refine sx ?_
  obtain ⟨ok4, nn, sf4⟩ := w4
  obtain ⟨K4, sf4', la, lc, l4, va, vc, ws4⟩ := B4
  simp only at k4 sf4
  subst k4
  subst sf4
  refine s_entL (.hb K4 50 (.slice la l4.length lc :: .slice va ws4.length vc :: [vn0, vn0, .int .i64 nn]) :: ol 24 la lc l4 :: fam 5 l4 :: ol 9 va vc ws4 :: H) ?_ ?_
  · refine Ent.open ?_
    show Ent (.hb K4 50 (.slice la l4.length lc :: .slice va ws4.length vc :: [vn0, vn0, .int .i64 nn]) :: ol 24 la lc l4 :: ol 9 va vc ws4 :: fam 5 l4 :: H) _
    exact ent
  refine s_rw (t := 143) (v' := .pointer (some ⟨K4, 0, none⟩)) rfl rfl ?_
  refine s_call rfl (bends_s (by have := ok4.len; simp only at this; omega) ok4.small ok4.same) ?_
  rintro _ _ ⟨rfl, rfl⟩
  refine ⟨chk_seq, ?_⟩
  refine sx ?_
  exact s_ret1 rfl rfl ⟨rfl, rfl⟩
end Go.Sx
