/- Part of a proof: the law LeafEncodes, walked. -/
import Derived.Test.YtbkaabjjmoaijaaCN9
import Derived.Test.YtbkaabjjmoaijaaCM5
import Derived.Test.YtbkaabjjmoaijaaCM8
namespace Go.Sx
open Go Go.Proofs
set_option maxRecDepth 10000
variable {w0 : World} {H : List Ck}
set_option maxHeartbeats 1000000 in
theorem lencodes_s {size : Int} {a a2 : Option Addr} {c c2 : Nat} {es os : List KV} (hs : I64 size) (he : REn w0 H a c es) (hz : Hz es) (ho : REn w0 H a2 c2 os) (hz2 : Hz os) :
    FnV Try.prog w0 H 4 #[.int .i64 size, .slice a es.length c, .slice a2 os.length c2] (.bool true) := by
  refine fns_enter Try.func4 rfl rfl rfl ?_
  refine sx ?_
  refine s_callV rfl shown_s ?_
  refine sx ?_
  refine s_callV rfl (weight_s (by exact ren) hz) ?_
  refine sx ?_
  refine s_callV rfl (weight_s (by exact ren) hz2) ?_
  have hup : ∀ fs : List KV, Hz fs → wB 0 (fs.map KV.p) ≤ 400000000000000 := fun fs hf => wB_up (by decide) _ 0 (fun x hx => by
    obtain ⟨y, hy, rfl⟩ := List.mem_map.1 hx
    exact hf y hy) (Nat.zero_le _)
  have hb1 := hup es hz
  have hb2 := hup os hz2
  refine sx ?_
  refine s_if rfl (fun hw => ?_) (fun hw => ?_)
  · refine sx ?_
    exact s_ret1 rfl rfl ⟨rfl, rfl⟩
  have hwt := (wB_le 0 (es.map KV.p)).1 (by omega)
  have hwt2 := (wB_le 0 (os.map KV.p)).1 (by omega)
  have hS : Small (es.map KV.p) := by simp only [Small]; omega
  have hS2 : Small (os.map KV.p) := by simp only [Small]; omega
  refine sx ?_
  refine s_boxA rfl fun b8 => ?_
  refine s_entL ((bk0 b8).ck :: H) bk0_ent ?_
  refine sx ?_
  refine s_call rfl (lend_c (by exact ren) hS) ?_
  rintro _ _ ⟨L, rfl, hp, rfl⟩
  refine ⟨chk_seq, ?_⟩
  have hn : L.fs.length = es.length := by simpa using congrArg List.length hp
  have hS' : Small (L.fs.map KV.p) := by rw [hp]; exact hS
  refine s_alloc fun b6 => ?_
  have r4 : ∀ K : List Ck, REn w0 (.star L.cs :: K) L.la L.lc L.fs := fun K => Ln.ren Ent.starOf
  refine s_knL (Kn.tl (Kn.en (r4 _))) fun l1 => ?_
  refine sx ?_
  refine s_rw (t := 37) (v' := .slice L.la L.fs.length L.lc) rfl (by rw [hn]) ?_
  have r5 : REn w0 (.hb b6 33 [.slice L.la (L.fs.length + 2) L.lc, .slice L.ka L.fs.length L.kc, .slice L.va L.fs.length L.vc] :: .star L.cs :: H) L.la L.lc L.fs := REn.tl (r4 _)
  refine s_call rfl ((encoded_s (size := size) (H := .hb b6 33 [.slice L.la (L.fs.length + 2) L.lc, .slice L.ka L.fs.length L.kc, .slice L.va L.fs.length L.vc] :: .star L.cs :: H) (es := L.fs) (fs := es) (bk0_ok b8) (by omega) hs r5 (by exact ren) hS' hp.symm).ent (by exact ent)) ?_
  rintro _ _ ⟨rfl, B1, rfl, hk1, ho1⟩
  refine ⟨chk_seq, ?_⟩
  have hk1 : B1.k = b8 := hk1
  subst hk1
  refine sx ?_
  refine s_call rfl (encoded_s (size := size) (es := os) (fs := os) ho1 (by omega) hs (by exact ren) (by exact ren) hS2 rfl) ?_
  rintro _ _ ⟨rfl, B2, rfl, hk2, ho2⟩
  refine ⟨chk_seq, ?_⟩
  rw [← hk2]
  refine sx ?_
  refine s_rw (t := 47) (v' := .slice L.la L.fs.length L.lc) rfl (by rw [hn]) ?_
  refine s_call rfl (encoded_s (size := size) (es := L.fs) (fs := es) ho2 (by omega) hs r5 (by exact ren) hS' hp.symm) ?_
  rintro _ _ ⟨rfl, B3, rfl, hk3, ho3⟩
  refine ⟨chk_seq, ?_⟩
  rw [← hk3]
  refine sx ?_
  refine s_callV rfl (stays_s (by exact stE) (by exact ren) hp) ?_
  refine sx ?_
  refine s_call rfl ((turn_s (H := B3.ck :: H) (L := L) hS').ent (by exact ent)) ?_
  rintro _ _ ⟨a', c', now, gs, cs', rfl, hnow, hgl, hgS, hgr, rfl⟩
  refine ⟨chk_seq, ?_⟩
  refine sx ?_
  refine s_rw (t := 57) (v' := .slice L.la gs.length L.lc) rfl (by rw [hgl, hn]) ?_
  refine s_call rfl ((encoded_s (size := size) (H := oe a' c' now :: .star cs' :: H) (es := gs) (fs := now) ho3 (by omega) hs (REn.tl (hgr _)) (by exact ren) hgS hnow).ent (by exact ent)) ?_
  rintro _ _ ⟨rfl, B4, rfl, hk4, ho4⟩
  refine ⟨chk_seq, ?_⟩
  rw [← hk4]
  refine sx ?_
  refine s_call rfl (ends_s ho4 (by omega)) ?_
  rintro _ _ ⟨rfl, rfl⟩
  refine ⟨chk_seq, ?_⟩
  refine sx ?_
  exact s_ret1 rfl rfl ⟨rfl, rfl⟩
end Go.Sx
