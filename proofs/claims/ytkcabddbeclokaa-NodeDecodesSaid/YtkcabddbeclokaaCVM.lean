/- The law NodeBack, walked. -/
import Derived.Test.YtkcabddbeclokaaCVK
import Derived.Test.YtkcabddbeclokaaCVL
namespace Go.Sx
open Go Go.Proofs
set_option maxRecDepth 10000
variable {w0 : World} {H : List Ck}
theorem size_of {m : Nat} (h : m < 4) : sizedB ((512 * 2 ^ m : Nat) : Int) = true := by
  have : m = 0 ∨ m = 1 ∨ m = 2 ∨ m = 3 := by omega
  rcases this with rfl | rfl | rfl | rfl <;> rfl
theorem pkL_nat {c n : Int} (hn : 0 < n) : ∃ m : Nat, pkL c n = (m : Int) ∧ (m : Int) < n := by
  have h := pkL_bd (c := c) hn
  exact ⟨(pkL c n).toNat, by omega, by omega⟩
theorem isN_I64 {size : Int} {n : Nd} (h : chkN size n.k.d n.md = 0) : ∀ p ∈ n.k.ps, I64 p := fun p hp => by
  have h1 := (chkK_0 (chkN_0 h).1).2.1.2.2
  have := h1.2 p hp
  constructor <;> omega
theorem isN_sum {size : Int} {n : Nd} (h : chkN size n.k.d n.md = 0) : sumM n.md ≤ 549755813888 := by
  obtain ⟨g1, g2, g3, g4⟩ := chkN_0 h
  have hs := sizedB_bd (chkK_0 g1).1
  have h2 : bytesM n.md = 4 + sumM n.md := rfl
  omega
theorem encN_len (d : List Int × List Bs) (ms : List MD) : (encN d ms).length = bytesK d + bytesM ms := by rw [encN, List.length_append, encK_len, layM_len]
theorem decNE_not {size : Int} {xs : Bs} (hs : sizedB size = true) (h : decNE size xs ≠ 0) : decNE size xs = 84 ∧ decND size xs = (([], []), []) := by
  refine decNE_84 hs fun d ms g => h (decNE_0 g).1
theorem decNE_is {size : Int} {xs : Bs} (h : decNE size xs = 0) : IsN size xs (decND size xs).1 (decND size xs).2 := by
  unfold decNE at h
  split at h
  · cases h
  split at h
  · rename_i g
    obtain ⟨p, hp⟩ := Option.isSome_iff_exists.1 g
    have := decNo_some hp
    rw [decND, hp]
    exact this
  · cases h
set_option maxHeartbeats 2000000 in
theorem nback_s {raw : Int} {n : Nd} {a : Option Addr} {c : Nat} {xs : Bs} (hr : I64 raw) (hn : RNd w0 H n) (hft : n.Fit) (hI : ∀ p ∈ n.k.ps, I64 p) (hx : RBy w0 H a c xs) : FnV Try.prog w0 H 5 #[.int .i64 raw, .agg n.cells.toArray, .slice a xs.length c] (.bool true) := by
  refine fns_enter Try.func5 rfl rfl rfl ?_
  refine sx ?_
  refine s_boxA rfl fun b4 => ?_
  refine sx ?_
  refine s_callV rfl nshown_s ?_
  refine sx ?_
  refine s_callV rfl (npick_s hr (by decide)) ?_
  obtain ⟨m, hm, hm4⟩ := pkL_nat (c := raw) (n := 4) (by decide)
  rw [hm]
  have hs := size_of (m := m) (by omega)
  refine s_yS rfl rfl rfl (y_shlv (a := 512) (m := m) rfl rfl (by omega) (by have := sizedB_bd hs; omega)) ?_
  generalize ((512 * 2 ^ m : Nat) : Int) = size at hs ⊢
  have hsb := sizedB_bd hs
  refine sx ?_
  refine s_call rfl (nweight_s (n := n) (by exact rnd) hft) ?_
  rintro _ _ ⟨x, rfl, hx0, hx1, rfl⟩
  refine ⟨chk_seq, ?_⟩
  refine sx ?_
  refine s_lif rfl (fun t1 => ?_) (fun t1 => ?_)
  · refine sx ?_
    exact s_ret1 rfl rfl ⟨rfl, rfl⟩
  have hsm := Nd.small_of (by omega) hx1
  have hsp := hsm.p
  have hsk := hsm.k
  have hsm' := hsm.m
  refine sx ?_
  refine s_if rfl (fun t2 => ?_) (fun t2 => ?_)
  · refine sx ?_
    exact s_ret1 rfl rfl ⟨rfl, rfl⟩
  refine sx ?_
  refine s_call rfl (nencode_s (n := n) (size := size) (by exact rnd) hI (by omega)) ?_
  rintro _ _ ⟨a9, c9, rfl, rfl⟩
  refine ⟨chk_seq, ?_⟩
  refine sx ?_
  refine s_callV rfl (ncheck_s (n := n) (size := size) (by exact rnd) hI (by omega)) ?_
  refine sx ?_
  refine s_cut (ι := Unit) (fun _ => [(2, .slice a xs.length c), (7, .bool true), (8, .int .i64 size)]) (fun _ => H) (fun _ => True) ?_ (fun _ _ => ?_)
  · refine sx ?_
    refine s_if rfl (fun t3 => ?_) (fun t3 => ?_)
    · have e0 : encNR size n.k.d n.md = encN n.k.d n.md := if_pos t3
      obtain ⟨g1, g2, g3, g4⟩ := chkN_0 t3
      have hel := encN_len n.k.d n.md
      have hdec := decNE_0 (size := size) (xs := encN n.k.d n.md) ⟨t3, rfl⟩
      rw [e0]
      generalize encN n.k.d n.md = bs at hel hdec ⊢
      refine sx ?_
      refine s_call rfl (ndecode_s (size := size) (xs := bs) (by exact rby) (by omega)) ?_
      rintro _ _ ⟨q, rfl, hq, rfl⟩
      rw [hdec.1]
      rw [hdec.2] at hq
      injection hq with hq1 hq2
      refine ⟨chk_seq, ?_⟩
      refine sx ?_
      refine s_alloc fun b11 => ?_
      refine sx ?_
      have hrq : RNd w0 (.hb b11 39 q.cells :: oN q (ob a9 c9 bs :: .hb b4 39 n.cells :: H)) q := RNd.oN.tl
      refine s_callV rfl (nsame_s (n := q) (q := n) hrq (by exact rnd)) ?_
      rw [decide_eq_true ⟨hq1, hq2⟩]
      refine sx ?_
      refine s_if rfl (fun t4 => by exfalso; omega) (fun t4 => ?_)
      refine sx ?_
      exact s_mid () trivial (he := Ent.tl (Ent.tl (Ent.tl (Ent.tl (Ent.tl (Ent.tl Ent.refl))))))
    · refine sx ?_
      exact s_mid () trivial (he := Ent.tl (Ent.tl Ent.refl))
  refine sx ?_
  refine s_call rfl (ndecode_s (size := size) (xs := xs) (by exact rby) (by omega)) ?_
  rintro _ _ ⟨q, rfl, hq, rfl⟩
  refine ⟨chk_seq, ?_⟩
  refine sx ?_
  refine s_alloc fun b14 => ?_
  refine sx ?_
  refine s_ifn rfl (fun t5 => ?_) (fun t5 => ?_)
  · obtain ⟨e1, e2⟩ := decNE_not hs t5
    rw [e2] at hq
    injection hq with hq1 hq2
    have h1 : q.k.ps = [] := congrArg Prod.fst hq1
    have h2 : q.ms = [] := by simpa using hq2
    obtain ⟨⟨pa, pc, ps, ka, kc, ks⟩, ma, mc, ms⟩ := q
    simp only at h1 h2
    subst h1
    subst h2
    rw [e1]
    refine sx ?_
    refine s_rw (t := 87) (v' := .pointer (some ((⟨b14, 0, none⟩ : Addr).add 0))) rfl rfl ?_
    refine sx ?_
    exact s_ret1 rfl rfl ⟨rfl, rfl⟩
  have hN := decNE_is t5
  rw [← hq] at hN
  obtain ⟨hc, he⟩ := hN
  have hrq : RNd w0 (.hb b14 39 q.cells :: oN q H) q := RNd.oN.tl
  refine sx ?_
  refine s_call rfl (nencode_s (n := q) (size := size) hrq (isN_I64 hc) (isN_sum hc)) ?_
  rintro _ _ ⟨a16, c16, rfl, rfl⟩
  have e0 : encNR size q.k.d q.md = xs := (if_pos hc).trans he
  rw [e0, hc]
  refine ⟨chk_seq, ?_⟩
  refine sx ?_
  exact s_ret1 rfl rfl ⟨rfl, rfl⟩
end Go.Sx
