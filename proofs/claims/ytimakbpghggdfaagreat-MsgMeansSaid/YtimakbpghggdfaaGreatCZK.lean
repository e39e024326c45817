/- The law MsgOneByOne, walked. -/
import Derived.Test.YtimakbpghggdfaaGreatCZJ
namespace Go.Sx
open Go Go.Proofs
set_option maxRecDepth 10000
variable {w0 : World} {H : List Ck}
theorem RMs.nil0 : RMs w0 H none 0 ([] : List Mg) := ⟨fun _ _ => ⟨Nat.le_refl _, Nat.zero_le _, fun _ => rfl, fun _ e => by cases e⟩, fun m h => by cases h⟩
theorem RSl.nilE : RSl w0 H none 0 ([] : List KV) := fun _ _ => ⟨Nat.le_refl _, Nat.zero_le _, fun _ => rfl, fun _ e => by cases e⟩
theorem getE_self (k : SB) : getE [(⟨k.a, k.c, k.xs, none, 0, []⟩ : KV)] k.xs = some [] := by unfold getE; simp [kf]
structure KyI where
  i : Nat
  a : Option Addr
  c : Nat
  ks : List SB
  L : List Ck
set_option maxHeartbeats 4000000 in
theorem lone_s {a b ka : Option Addr} {c d kc : Nat} {es : List KV} {ms : List Mg} {key : Bs} (hx : RSl w0 H a c es) (hr : ∀ e ∈ es, REe w0 H e) (hm : RMs w0 H b d ms) (hk : RBy w0 H ka kc key) (hz : ∀ m ∈ ms, m.lo.length ≤ 140737488355327 ∧ m.hi.length ≤ 140737488355327 ∧ m.v.length ≤ 140737488355327) (hy : ∀ e ∈ es, e.k.length ≤ 140737488355328 ∧ e.v.length ≤ 140737488355328) :
    FnV Tryz.prog w0 H 3 #[.slice a es.length c, .slice b ms.length d, .slice ka key.length kc] (.bool true) := by
  refine fns_enter Tryz.func3 rfl rfl rfl ?_
  have hsl := hm.sl
  have hz' : ∀ m ∈ ms, m.lo.length ≤ 140737488355327 ∧ m.hi.length ≤ 140737488355328 ∧ m.v.length ≤ 140737488355328 := fun m h => by have := hz m h; omega
  refine sx ?_
  refine s_callV rfl lawake_s ?_
  refine sx ?_
  refine s_call rfl (entries_s7 (es := es) (by exact rsl) hy) ?_
  rintro _ H1 ⟨x, rfl, hx0, hx1, e1⟩
  obtain rfl : H = H1 := e1.symm
  refine ⟨chk_seq, ?_⟩
  refine sx ?_
  refine s_lif rfl (fun t1 => ?_) (fun t1 => ?_)
  · refine sx ?_
    exact s_ret1 rfl rfl ⟨rfl, rfl⟩
  refine sx ?_
  refine s_call rfl (lweights_s (ms := ms) (by exact rms) (fun m h => by have := hz m h; omega)) ?_
  rintro _ H1 ⟨y, rfl, hy0, hy1, e1⟩
  obtain rfl : H = H1 := e1.symm
  refine ⟨chk_seq, ?_⟩
  refine sx ?_
  refine s_if rfl (fun t2 => ?_) (fun t2 => ?_)
  · refine sx ?_
    exact s_ret1 rfl rfl ⟨rfl, rfl⟩
  have hs1 := hx1 (by omega)
  have hs2 := hy1 (by omega)
  have hl1 := sumE_len es
  have hl2 := sumM_len (ms.map Mg.d)
  rw [List.length_map] at hl2
  refine sx ?_
  refine s_call rfl (apply_s (es := es) (ms := ms) hx hr hm (by omega) hz' hy) ?_
  rintro _ _ ⟨a8, out, rfl, happ, hol, rfl⟩
  refine ⟨chk_seq, ?_⟩
  refine sx ?_
  refine s_bsl [(⟨ka, kc, key⟩ : SB)] rfl rfl fun b42 => ?_
  refine sx ?_
  refine s_loop (fun q : KyI => [(0, .slice a es.length c), (1, .slice b ms.length d), (7, .bool true), (8, .slice a8 out.length out.length), (9, .slice q.a q.ks.length q.c), (10, .int .i64 q.i)]) (fun q => ol 24 q.a q.c q.ks :: ol 31 a8 out.length out :: stars oKVs out :: H) (fun q => q.i ≤ es.length ∧ q.ks.length ≤ 1 + q.i ∧ ∀ k ∈ q.ks, RBy w0 H k.a k.c k.xs) (fun q => es.length - q.i) ⟨0, some ⟨b42, 0, none⟩, 1, [⟨ka, kc, key⟩], []⟩ ⟨Nat.zero_le _, by simp, fun k h => by rw [List.mem_singleton.1 h]; exact hk⟩ ?_
  rintro ⟨i, ya, yc, ks, L⟩ ⟨g1, g2, g3⟩
  simp only at g1 g2 g3 ⊢
  refine sx ?_
  refine s_if rfl (fun t3 => ?_) (fun t3 => ?_)
  · obtain ⟨e, he⟩ := get_lt es i (by omega)
    have her := hr e (List.mem_of_getElem? he)
    refine sx ?_
    refine s_bsl [(⟨e.ka, e.kc, e.k⟩ : SB)] rfl rfl fun b55 => ?_
    refine s_app (xs := ks) (ys := [(⟨e.ka, e.kc, e.k⟩ : SB)]) ?_ (hby := by simp only [List.length_cons, List.length_nil]; omega)
    intro a4 c4
    refine sx ?_
    refine s_again ⟨i + 1, a4, c4, ks ++ [⟨e.ka, e.kc, e.k⟩], []⟩ ⟨by simp only; omega, by simp only [List.length_append, List.length_cons, List.length_nil]; omega, fun k h => ?_⟩ (by simp only; omega)
    rcases List.mem_append.1 h with h | h
    · exact g3 k h
    · rw [List.mem_singleton.1 h]; exact her.k
  obtain rfl : i = es.length := by omega
  refine sx ?_
  refine s_loop (fun q : KyI => [(0, .slice a es.length c), (1, .slice b ms.length d), (7, .bool true), (8, .slice a8 out.length out.length), (9, .slice q.a q.ks.length q.c), (11, .int .i64 q.i)]) (fun q => ol 24 q.a q.c q.ks :: .star q.L :: ol 31 a8 out.length out :: stars oKVs out :: H) (fun q => q.i ≤ ms.length ∧ q.ks.length ≤ 1 + es.length + 3 * q.i ∧ ∀ k ∈ q.ks, RBy w0 (.star q.L :: H) k.a k.c k.xs) (fun q => ms.length - q.i) ⟨0, ya, yc, ks, []⟩ ⟨Nat.zero_le _, by simp only; omega, fun k h => (g3 k h).tl⟩ ?_ (he := Ent.head Ent.star0)
  clear g3 g2 t3
  rintro ⟨i, ya, yc, ks, L⟩ ⟨g1, g2, g3⟩
  simp only at g1 g2 g3 ⊢
  refine sx ?_
  refine s_if rfl (fun t3 => ?_) (fun t3 => ?_)
  · obtain ⟨m, hmi⟩ := get_lt ms i (by omega)
    obtain ⟨r1, r2, r3⟩ := hm.el m (List.mem_of_getElem? hmi)
    obtain ⟨z1, z2, z3⟩ := hz m (List.mem_of_getElem? hmi)
    refine sx ?_; refine s_drR (ol 24 ya yc ks) (by exact rm) (.one true 0 (.one true 1 (.one true 2 (.one true 3 (.one true 4 (.one true 5 (.one true 6 (.one true 7 (.one true 8 (.one true 9 (.one true 10 (.one true 11 (.one true 12 (.one true 13 (.one true 14 (.one true 15 (.one false 16 (.one false 17 (.one false 18 (.one true 19 .nil)))))))))))))))))))) mixed (by kernel_rfl) ?_; refine sx ?_
    refine s_call rfl (mnext_s (xs := m.lo) (by exact rby) z1) ?_
    rintro _ _ ⟨na, nc, rfl, rfl⟩
    refine ⟨chk_held (by exact ent), ?_⟩
    refine sx ?_
    refine s_bsl [(⟨m.la, m.lc, m.lo⟩ : SB), ⟨m.ha, m.hc, m.hi⟩, ⟨na, nc, m.lo ++ [0]⟩] rfl rfl fun b59 => ?_
    refine s_app (xs := ks) (ys := [(⟨m.la, m.lc, m.lo⟩ : SB), ⟨m.ha, m.hc, m.hi⟩, ⟨na, nc, m.lo ++ [0]⟩]) ?_ (hby := by simp only [List.length_cons, List.length_nil]; omega)
    intro a4 c4
    refine sx ?_
    refine s_again ⟨i + 1, a4, c4, ks ++ [(⟨m.la, m.lc, m.lo⟩ : SB), ⟨m.ha, m.hc, m.hi⟩, ⟨na, nc, m.lo ++ [0]⟩], ob na nc (m.lo ++ [0]) :: L⟩ ⟨by simp only; omega, by simp only [List.length_append, List.length_cons, List.length_nil]; omega, fun k hk => ?_⟩ (by simp only; omega) (he := ?_)
    · have key : ∀ k ∈ ks ++ [(⟨m.la, m.lc, m.lo⟩ : SB), ⟨m.ha, m.hc, m.hi⟩, ⟨na, nc, m.lo ++ [0]⟩], RBy w0 (ob na nc (m.lo ++ [0]) :: .star L :: H) k.a k.c k.xs := fun k hk => by
        rcases List.mem_append.1 hk with hk | hk
        · exact (g3 k hk).tl
        · simp only [List.mem_cons, List.not_mem_nil, or_false] at hk
          rcases hk with rfl | rfl | rfl
          · exact r1.tl.tl
          · exact r2.tl.tl
          · exact RBy.hd
      exact (key k hk).ent (Ent.open (Ent.head (Ent.star Ent.refl)))
    · exact Ent.trans (H' := ol 24 a4 c4 (ks ++ [(⟨m.la, m.lc, m.lo⟩ : SB), ⟨m.ha, m.hc, m.hi⟩, ⟨na, nc, m.lo ++ [0]⟩]) :: ob na nc (m.lo ++ [0]) :: .star L :: ol 31 a8 out.length out :: stars oKVs out :: H) (by exact entq) (Ent.head (Ent.star (Ent.head (Ent.open Ent.refl))))
  obtain rfl : i = ms.length := by omega
  have hks : RSl w0 (ol 24 ya yc ks :: .star L :: ol 31 a8 out.length out :: stars oKVs out :: H) ya yc ks := RSl.hd
  have ho1 : RSl w0 (ol 24 ya yc ks :: .star L :: ol 31 a8 out.length out :: stars oKVs out :: H) a8 out.length out := RSl.hd.tl.tl
  have hor : ∀ e ∈ out, REe w0 (ol 24 ya yc ks :: .star L :: ol 31 a8 out.length out :: stars oKVs out :: H) e := fun e he => (REe.st he).tl.tl.tl
  have hx1 : RSl w0 (ol 24 ya yc ks :: .star L :: ol 31 a8 out.length out :: stars oKVs out :: H) a c es := hx.tl.tl.tl.tl
  have hr1 : ∀ e ∈ es, REe w0 (ol 24 ya yc ks :: .star L :: ol 31 a8 out.length out :: stars oKVs out :: H) e := fun e he => (hr e he).tl.tl.tl.tl
  have hm1 : RMs w0 (ol 24 ya yc ks :: .star L :: ol 31 a8 out.length out :: stars oKVs out :: H) b d ms := hm.tl.tl.tl.tl
  have hcap : Kn w0 (ol 24 ya yc ks :: .star L :: ol 31 a8 out.length out :: stars oKVs out :: H) (out.length ≤ out.length ∧ out.length ≤ maxLen) := Kn.sl ho1
  refine s_kn hcap fun l3 => ?_
  simp only [maxLen] at l3
  refine sx ?_
  refine s_loop (fun j : Nat => [(0, .slice a es.length c), (1, .slice b ms.length d), (7, .bool true), (8, .slice a8 out.length out.length), (9, .slice ya ks.length yc), (12, .int .i64 j)]) (fun _ => ol 24 ya yc ks :: .star L :: ol 31 a8 out.length out :: stars oKVs out :: H) (fun j => j ≤ ks.length) (fun j => ks.length - j) 0 (Nat.zero_le _) ?_
  intro j hj
  refine sx ?_
  refine s_if rfl (fun t4 => ?_) (fun t4 => ?_)
  · obtain ⟨k, hkj⟩ := get_lt ks j (by omega)
    have hkb : RBy w0 (ol 24 ya yc ks :: .star L :: ol 31 a8 out.length out :: stars oKVs out :: H) k.a k.c k.xs := (g3 k (List.mem_of_getElem? hkj)).ent (Ent.tl (Ent.head (Ent.tl (Ent.tl Ent.refl))))
    have hget := happ.get k.xs
    have hcnt := cntE_up happ.up k.xs
    refine sx ?_
    refine s_call rfl (plain_s (es := es) (ms := ms) (key := k.xs) hx1 hr1 hm1 hkb (by omega)) ?_
    rintro _ _ ⟨wa, wc, rfl, hw, rfl⟩
    refine ⟨chk_seq, ?_⟩
    refine sx ?_
    refine s_call rfl (has_s7 (es := out) (key := k.xs) ho1 hor hkb (by omega)) ?_
    rintro _ _ ⟨va, vc, rfl, hv, rfl⟩
    refine ⟨chk_seq, ?_⟩
    refine sx ?_
    refine s_call rfl (mget_s (ms := ms) (key := k.xs) hm1 hkb (fun m h => by have := hz' m h; omega)) ?_
    rintro _ _ ⟨ua, uc, rfl, rfl⟩
    refine ⟨chk_seq, ?_⟩
    refine sx ?_
    have e20 : appO (getE [(⟨k.a, k.c, k.xs, none, 0, []⟩ : KV)] k.xs) (getM (([] : List Mg).map Mg.d) k.xs) = some [] := by rw [getE_self]; rfl
    have e22 : getE [] k.xs = none := rfl
    refine sx ?_; refine s_dr (.one true 0 (.one true 1 (.one true 2 (.one true 3 (.one true 4 (.one true 6 (.one true 7 (.one true 8 (.one true 9 (.one false 5 (.one false 10 (.one true 11 (.one true 12 (.one true 13 (.one true 14 (.one true 15 .nil)))))))))))))))) mixed (by kernel_rfl) ?_; refine sx ?_
    refine s_bsl [(⟨k.a, k.c, k.xs, none, 0, []⟩ : KV)] rfl rfl fun b123 => ?_
    refine sx ?_
    refine s_call rfl (plain_s (es := [(⟨k.a, k.c, k.xs, none, 0, []⟩ : KV)]) (ms := ([] : List Mg)) (key := k.xs) RSl.hd (fun e he => by rw [List.mem_singleton.1 he]; exact ⟨hkb.tl.tl, RBy.nil⟩) RMs.nil0 hkb.tl.tl (by simp only [List.length_cons, List.length_nil]; omega)) ?_
    rintro _ _ ⟨_, _, rfl, _, rfl⟩
    refine ⟨chk_held (by exact ent), ?_⟩
    rw [e20]
    refine sx ?_
    refine sx ?_; refine s_dr (.one true 0 (.one true 1 (.one true 2 (.one true 3 (.one true 4 (.one true 6 (.one true 7 (.one true 8 (.one true 9 (.one true 10 (.one false 5 (.one false 11 (.one true 12 (.one true 13 (.one true 14 (.one true 15 (.one true 16 .nil))))))))))))))))) mixed (by kernel_rfl) ?_; refine sx ?_
    refine s_bsl [(⟨k.a, k.c, k.xs, none, 0, []⟩ : KV)] rfl rfl fun b137 => ?_
    refine sx ?_
    refine s_call rfl (plain_s (es := [(⟨k.a, k.c, k.xs, none, 0, []⟩ : KV)]) (ms := ms) (key := k.xs) RSl.hd (fun e he => by rw [List.mem_singleton.1 he]; exact ⟨hkb.tl.tl.tl, RBy.nil⟩) hm1.tl.tl.tl hkb.tl.tl.tl (by simp only [List.length_cons, List.length_nil]; omega)) ?_
    rintro _ _ ⟨_, _, rfl, _, rfl⟩
    refine ⟨chk_held (by exact ent), ?_⟩
    rw [getE_self]
    refine sx ?_
    refine s_call rfl (plain_s (es := ([] : List KV)) (ms := ms) (key := k.xs) RSl.nilE (fun e he => by cases he) hm1.tl.tl.tl hkb.tl.tl.tl (by simp only [List.length_nil]; omega)) ?_
    rintro _ _ ⟨_, _, rfl, _, rfl⟩
    refine ⟨chk_seq, ?_⟩
    rw [e22, hcnt, hget]
    rw [hget] at hv
    generalize getE es k.xs = E at hw hv ⊢
    generalize getM (ms.map Mg.d) k.xs = G at hw hv ⊢
    rcases G with _ | (_ | v)
    · rcases E with _ | u
      · refine sx ?_
        exact s_again (j + 1) (by omega) (by omega)
      · refine sx ?_
        exact s_again (j + 1) (by omega) (by omega)
    · refine sx ?_
      exact s_again (j + 1) (by omega) (by omega)
    · refine sx ?_
      refine s_lifn rfl (fun t5 => absurd rfl t5) (fun t5 => ?_)
      refine sx ?_
      exact s_again (j + 1) (by omega) (by omega)
  obtain rfl : j = ks.length := by omega
  refine sx ?_
  refine s_loop (fun j : Nat => [(7, .bool true), (8, .slice a8 out.length out.length), (27, .int .i64 j)]) (fun _ => ol 24 ya yc ks :: .star L :: ol 31 a8 out.length out :: stars oKVs out :: H) (fun j => 1 ≤ j) (fun j => out.length - j) 1 (Nat.le_refl _) ?_
  intro j hj1
  refine sx ?_
  refine s_if rfl (fun t5 => ?_) (fun t5 => ?_)
  · obtain ⟨e, he⟩ := get_lt out j (by omega)
    obtain ⟨e', he'⟩ := get_lt out (j - 1) (by omega)
    have hlt := happ.up.lt (by omega : j - 1 < j) he' he
    have hb1 := (hor e (List.mem_of_getElem? he)).k
    have hb2 := (hor e' (List.mem_of_getElem? he')).k
    refine sx ?_; refine s_dr (.one true 0 (.one true 1 (.one true 2 (.one true 3 (.one true 4 (.one true 5 (.one true 6 (.one true 7 (.one true 8 (.one true 9 (.one true 10 (.one false 11 (.one true 12 .nil))))))))))))) mixed (by kernel_rfl) ?_; refine sx ?_
    refine s_callV rfl (compare_s (xs := e'.k) (ys := e.k) hb2 hb1) ?_
    refine sx ?_
    refine s_if rfl (fun t6 => by exfalso; omega) (fun t6 => ?_)
    refine sx ?_
    exact s_again (j + 1) (by omega) (by omega)
  · refine sx ?_
    exact s_ret1 rfl rfl ⟨rfl, rfl⟩
end Go.Sx
