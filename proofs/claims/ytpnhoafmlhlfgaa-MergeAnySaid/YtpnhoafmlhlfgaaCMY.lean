/- Part of a proof: the document's tellings as lists: Copy, All, Check, Same, walked. -/
import Derived.Test.YtpnhoafmlhlfgaaCMX
import Derived.Test.YtpnhoafmlhlfgaaCOBj
import Derived.Test.YtpnhoafmlhlfgaaCKB
namespace Go.Sx
open Go Go.Proofs
set_option maxRecDepth 10000
variable {w0 : World} {H : List Ck}
/-- Entries of one's own, with their bytes. -/
@[reducible] def oL (a : Option Addr) (c : Nat) (out : List KV) (H : List Ck) : List Ck := ol 36 a c out :: stars oKVs out :: H
structure RcI where
  i : Nat
  a : Option Addr
  c : Nat
  os : List KV
set_option maxHeartbeats 4000000 in
theorem g13copy_s {a : Option Addr} {c : Nat} {es : List KV} (hx : RSl w0 H a c es) (hr : ∀ e ∈ es, REe w0 H e) (hl : es.length ≤ 549755813888) (hsm : SmL (es.map KV.p)) :
    FnS Try.prog w0 H 42 #[.slice a es.length c] (fun v H' => ∃ a' c' out, v = .slice a' (out : List KV).length c' ∧ out.map KV.p = es.map KV.p ∧ H' = oL a' c' out H) := by
  refine fns_enter Try.func42 rfl rfl rfl ?_
  refine sx ?_
  refine s_loop (fun q : RcI => [(0, .slice a es.length c), (3, .slice q.a q.os.length q.c), (4, .int .i64 q.i)]) (fun q => oL q.a q.c q.os H) (fun q => q.i ≤ es.length ∧ q.os.map KV.p = (es.map KV.p).take q.i) (fun q => es.length - q.i) ⟨0, none, 0, []⟩ ⟨Nat.zero_le _, by simp⟩ ?_ (he := Ent.nilS.trans (Ent.head stars_nil))
  rintro ⟨i, oa, oc, os⟩ ⟨h1, h2⟩
  simp only at h1 h2 ⊢
  have hol : os.length = i := by
    have := congrArg List.length h2
    simp only [List.length_map, List.length_take] at this
    omega
  refine sx ?_
  refine s_if rfl (fun t1 => ?_) (fun t1 => ?_)
  · obtain ⟨e, he⟩ := get_lt es i (by omega)
    have her := hr e (List.mem_of_getElem? he)
    obtain ⟨y1, y2⟩ := hsm.kv rfl (List.mem_of_getElem? he)
    have hek := her.k
    have hev := her.v
    refine sx ?_; refine s_drH (H) (.one true 0 (.one true 1 (.one true 2 (.one true 3 (.one true 4 (.one true 5 (.one true 7 (.one true 8 (.one true 9 (.one true 10 (.one true 11 (.one false 6 (.one false 12 (.one true 13 (.one false 14 (.one false 15 (.one true 16 .nil))))))))))))))))) mixed (by kernel_rfl) ?_; refine sx ?_
    refine s_call rfl (qcopy_s (xs := e.k) (by exact rby) y1) ?_
    rintro _ _ ⟨ka, rfl, rfl⟩
    refine ⟨chk_held (by exact ent), ?_⟩
    refine sx ?_
    refine s_call rfl (qcopy_s (xs := e.v) (by exact rby) y2) ?_
    rintro _ _ ⟨va, rfl, rfl⟩
    refine ⟨chk_held (by exact ent), ?_⟩
    refine sx ?_
    refine s_bsl [(⟨ka, e.k.length, e.k, va, e.v.length, e.v⟩ : KV)] rfl rfl fun b42 => ?_
    refine s_app (xs := os) (ys := [(⟨ka, e.k.length, e.k, va, e.v.length, e.v⟩ : KV)]) ?_ (hby := by simp only [List.length_cons, List.length_nil]; omega)
    intro a4 c4
    refine sx ?_
    refine s_again ⟨i + 1, a4, c4, os ++ [⟨ka, e.k.length, e.k, va, e.v.length, e.v⟩]⟩ ⟨by simp only; omega, ?_⟩ (by simp only; omega) (he := ?_)
    · simp only [List.map_append]
      rw [h2, snocT (get_map (f := KV.p) he)]
      rfl
    · refine Ent.cons (by exact rm) ?_
      exact Ent.trans (H' := ob ka e.k.length e.k :: ob va e.v.length e.v :: stars oKVs os :: H) (by exact ent) (stars_snoc (f := oKVs) (s := ⟨ka, e.k.length, e.k, va, e.v.length, e.v⟩))
  · obtain rfl : i = es.length := by omega
    rw [List.take_of_length_le (by simp)] at h2
    refine sx ?_
    exact s_ret1 rfl rfl ⟨oa, oc, os, rfl, h2, rfl⟩
theorem tk_le {L : List (Bs × Bs)} {m : Int} (h : 0 ≤ m) : tk m L = L.take m.toNat := by
  unfold tk
  rw [if_neg (by omega)]
set_option maxHeartbeats 1000000 in
theorem g13all_s {a : Option Addr} {c : Nat} {es : List KV} {most : Int} (hx : RSl w0 H a c es) (hr : ∀ e ∈ es, REe w0 H e) (hl : es.length ≤ 549755813888) (hsm : SmL (es.map KV.p)) :
    FnS Try.prog w0 H 23 #[.slice a es.length c, .int .i64 most] (fun v H' => ∃ a' c' out, v = .slice a' (out : List KV).length c' ∧ out.map KV.p = tk most (es.map KV.p) ∧ H' = oL a' c' out H) := by
  refine fns_enter Try.func23 rfl rfl rfl ?_
  refine s_kn (Kn.sl hx) fun l1 => ?_
  simp only [maxLen] at l1
  have cp := g13copy_s hx hr hl hsm
  refine sx ?_
  refine s_lif rfl (fun t1 => ?_) (fun t1 => ?_)
  · have htk : tk most (es.map KV.p) = es.map KV.p := by unfold tk; rw [if_pos t1]
    rw [htk]
    refine sx ?_
    refine s_call rfl cp ?_
    rintro _ _ ⟨a', c', out, rfl, ho, rfl⟩
    refine ⟨chk_seq, ?_⟩
    refine sx ?_
    exact s_ret1 rfl rfl ⟨a', c', out, rfl, ho, rfl⟩
  · refine sx ?_
    refine s_if rfl (fun t2 => ?_) (fun t2 => ?_)
    · have t2 : (es.length : Int) < most := t2
      have htk : tk most (es.map KV.p) = es.map KV.p := by unfold tk; rw [if_neg t1, List.take_of_length_le (by simp; omega)]
      rw [htk]
      refine sx ?_
      refine s_call rfl cp ?_
      rintro _ _ ⟨a', c', out, rfl, ho, rfl⟩
      refine ⟨chk_seq, ?_⟩
      refine sx ?_
      exact s_ret1 rfl rfl ⟨a', c', out, rfl, ho, rfl⟩
    · have t2 : ¬ (es.length : Int) < most := t2
      obtain ⟨k, rfl⟩ : ∃ k : Nat, most = k := ⟨most.toNat, by omega⟩
      have htk : tk (k : Int) (es.map KV.p) = (es.take k).map KV.p := by unfold tk; rw [if_neg t1, List.map_take, Int.toNat_natCast]
      have hlk : (es.take k).length = k := by rw [List.length_take]; omega
      have cp := g13copy_s (hx.take (k := k) (by omega)) (fun e he => hr e (List.mem_of_mem_take he)) (by omega) (fun p hp => hsm p (by rw [List.map_take] at hp; exact List.mem_of_mem_take hp))
      rw [hlk] at cp
      rw [htk]
      refine sx ?_
      refine s_call rfl cp ?_
      rintro _ _ ⟨a', c', out, rfl, ho, rfl⟩
      refine ⟨chk_seq, ?_⟩
      refine sx ?_
      exact s_ret1 rfl rfl ⟨a', c', out, rfl, ho, rfl⟩
set_option maxHeartbeats 1000000 in
theorem g13check_s {a : Option Addr} {c : Nat} {es : List KV} (hx : RSl w0 H a c es) (hr : ∀ e ∈ es, REe w0 H e) (hl : es.length ≤ 549755813888) (hsm : SmL (es.map KV.p)) :
    FnS Try.prog w0 H 20 #[.slice a es.length c] (fun v H' => ∃ n a' c' out, Rn (es.map KV.p) n ∧ v = .tuple #[.slice a' (out : List KV).length c', .int .i64 (if n = es.length then 0 else 131)] ∧ out.map KV.p = (es.map KV.p).take n ∧ H' = oL a' c' out H) := by
  refine fns_enter Try.func20 rfl rfl rfl ?_
  refine s_kn (Kn.sl hx) fun l1 => ?_
  simp only [maxLen] at l1
  have sml : ∀ k, SmL ((es.take k).map KV.p) := fun k p hp => hsm p (by rw [List.map_take] at hp; exact List.mem_of_mem_take hp)
  refine sx ?_
  refine s_loop (fun i : Nat => [(0, .slice a es.length c), (4, .int .i64 i)]) (fun _ => H) (fun i => 1 ≤ i ∧ (i ≤ es.length ∨ i = 1) ∧ ∀ j p q, j + 1 < i → (es.map KV.p)[j]? = some p → (es.map KV.p)[j + 1]? = some q → cmp p.1 q.1 < 0) (fun i => es.length - i) 1 ⟨Nat.le_refl _, .inr rfl, fun j _ _ h => by omega⟩ ?_
  rintro i ⟨h0, h1, h2⟩
  refine sx ?_
  refine s_if rfl (fun t1 => ?_) (fun t1 => ?_)
  · have t1 : (i : Int) < (es.length : Int) := t1
    obtain ⟨p, hp⟩ := get_lt es (i - 1) (by omega)
    obtain ⟨e, he⟩ := get_lt es i (by omega)
    have hpk := (hr p (List.mem_of_getElem? hp)).k
    have hek := (hr e (List.mem_of_getElem? he)).k
    refine sx ?_
    refine s_dr (.one true 0 (.one true 1 (.one true 2 (.one true 3 (.one true 4 (.one true 5 (.one true 6 (.one true 7 (.one true 8 (.one true 9 (.one true 10 (.one false 11 (.one true 12 .nil))))))))))))) mixed (by kernel_rfl) ?_
    refine sx ?_
    refine s_callV rfl (qless_s hpk hek) ?_
    refine sx ?_
    have hmp : (es.map KV.p)[i - 1]? = some p.p := get_map (f := KV.p) hp
    have hme : (es.map KV.p)[i]? = some e.p := get_map (f := KV.p) he
    refine s_ifn rfl (fun t2 => ?_) (fun t2 => ?_)
    · have t2 : ¬ cmp p.k e.k < 0 := t2
      have hlk : (es.take i).length = i := by rw [List.length_take]; omega
      have cp := g13copy_s (hx.take (k := i) (by omega)) (fun e he => hr e (List.mem_of_mem_take he)) (by omega) (sml i)
      rw [hlk] at cp
      refine sx ?_
      refine s_call rfl cp ?_
      rintro _ _ ⟨a', c', out, rfl, ho, rfl⟩
      refine ⟨chk_seq, ?_⟩
      refine sx ?_
      refine s_ret2 rfl rfl rfl ⟨i, a', c', out, ⟨by rw [List.length_map]; omega, h2, fun _ => ⟨by omega, fun q q' g g' => ?_⟩⟩, by rw [if_neg (by omega)], by rw [ho, List.map_take], rfl⟩
      rw [hmp] at g
      rw [hme] at g'
      cases g
      cases g'
      exact t2
    · have t2 : cmp p.k e.k < 0 := t2
      refine sx ?_
      refine s_again (i + 1) ⟨by omega, by omega, fun j q q' hj g g' => ?_⟩ (by omega)
      by_cases hji : j + 1 < i
      · exact h2 j q q' hji g g'
      · obtain rfl : j = i - 1 := by omega
        rw [hmp] at g
        rw [show i - 1 + 1 = i by omega, hme] at g'
        cases g
        cases g'
        exact t2
  · have t1 : ¬ (i : Int) < (es.length : Int) := t1
    refine sx ?_
    refine s_call rfl (g13copy_s hx hr hl hsm) ?_
    rintro _ _ ⟨a', c', out, rfl, ho, rfl⟩
    refine ⟨chk_seq, ?_⟩
    refine sx ?_
    refine s_ret2 rfl rfl rfl ⟨es.length, a', c', out, ⟨by rw [List.length_map]; omega, fun j p q hj g g' => h2 j p q (by omega) g g', fun h => by rw [List.length_map] at h; omega⟩, by rw [if_pos rfl], by rw [ho, List.take_of_length_le (by simp)], rfl⟩
theorem pkv_eq {L M : List (Bs × Bs)} {i : Nat} {x y : KV} (e : L = M) (h1 : L[i]? = some x.p) (h2 : M[i]? = some y.p) : x.k = y.k ∧ x.v = y.v := by
  rw [e, h2] at h1
  have := Option.some.inj h1
  simp only [KV.p, Prod.mk.injEq] at this
  exact ⟨this.1.symm, this.2.symm⟩
set_option maxHeartbeats 1000000 in
theorem g13same_s {a a' : Option Addr} {c c' : Nat} {xs ys : List KV} (hx : RSl w0 H a c xs) (hxr : ∀ e ∈ xs, REe w0 H e) (hy : RSl w0 H a' c' ys) (hyr : ∀ e ∈ ys, REe w0 H e) : FnV Try.prog w0 H 21 #[.slice a xs.length c, .slice a' ys.length c'] (.bool (decide (xs.map KV.p = ys.map KV.p))) := by
  refine fns_enter Try.func21 rfl rfl rfl ?_
  refine s_kn (Kn.sl hx) fun l1 => s_kn (Kn.sl hy) fun l2 => ?_
  simp only [maxLen] at l1 l2
  refine sx ?_
  refine s_ifn rfl (fun t1 => ?_) (fun t1 => ?_)
  · refine sx ?_
    refine s_ret1 rfl rfl ⟨?_, rfl⟩
    rw [decide_eq_false (fun e => t1 (by have := congrArg List.length e; simp only [List.length_map] at this; rw [this]))]
  have hl : xs.length = ys.length := by omega
  refine sx ?_
  refine s_loop (fun i : Nat => [(0, .slice a xs.length c), (1, .slice a' ys.length c'), (5, .int .i64 i)]) (fun _ => H) (fun i => i ≤ xs.length ∧ (xs.map KV.p).take i = (ys.map KV.p).take i) (fun i => xs.length - i) 0 ⟨Nat.zero_le _, rfl⟩ ?_
  rintro i ⟨hi, he⟩
  refine sx ?_
  refine s_if rfl (fun t2 => ?_) (fun t2 => ?_)
  · obtain ⟨x, hxi⟩ := get_lt xs i (by omega)
    obtain ⟨y, hyi⟩ := get_lt ys i (by omega)
    have hx0 := hxr x (List.mem_of_getElem? hxi)
    have hy0 := hyr y (List.mem_of_getElem? hyi)
    have b1 := hx0.k
    have b2 := hx0.v
    have b3 := hy0.k
    have b4 := hy0.v
    have hmx : (xs.map KV.p)[i]? = some x.p := get_map (f := KV.p) hxi
    have hmy : (ys.map KV.p)[i]? = some y.p := get_map (f := KV.p) hyi
    refine sx ?_; refine s_dr (.one true 0 (.one true 1 (.one true 2 (.one true 3 (.one true 4 (.one true 5 (.one true 6 (.one true 7 (.one true 8 (.one true 9 (.one false 10 (.one true 11 .nil)))))))))))) mixed (by kernel_rfl) ?_; refine sx ?_
    refine s_callV rfl (qsame_s b1 b3) ?_
    refine sx ?_
    refine s_dr (.one true 0 (.one true 1 (.one true 2 (.one true 3 (.one true 4 (.one true 5 (.one true 6 (.one true 7 (.one true 8 (.one true 9 (.one false 10 (.one true 11 .nil)))))))))))) mixed (by kernel_rfl) ?_
    refine sx ?_
    refine s_callV rfl (qsame_s b2 b4) ?_
    refine sx ?_
    by_cases hk : x.k = y.k ∧ x.v = y.v
    · refine s_rw (t := 43) (v' := .bool false) rfl (by simp [hk.1]) ?_
      refine sx ?_
      refine s_cF rfl (by simp [hk.2]) ?_
      refine sx ?_
      refine s_again (i + 1) ⟨by omega, ?_⟩ (by omega)
      rw [snocT hmx, snocT hmy, he]
      have : x.p = y.p := by simp [KV.p, hk.1, hk.2]
      rw [this]
    · have hne : xs.map KV.p ≠ ys.map KV.p := fun e => hk (pkv_eq e hmx hmy)
      by_cases hkk : x.k = y.k
      · refine s_rw (t := 43) (v' := .bool false) rfl (by simp [hkk]) ?_
        refine sx ?_
        refine s_cT rfl (by simp; exact fun g => hk ⟨hkk, g⟩) ?_
        refine sx ?_
        exact s_ret1 rfl rfl ⟨by rw [decide_eq_false hne], rfl⟩
      · refine s_rw (t := 43) (v' := .bool true) rfl (by simp [hkk]) ?_
        refine sx ?_
        exact s_ret1 rfl rfl ⟨by rw [decide_eq_false hne], rfl⟩
  · obtain rfl : i = xs.length := by omega
    refine sx ?_
    refine s_ret1 rfl rfl ⟨?_, rfl⟩
    rw [List.take_of_length_le (by simp), List.take_of_length_le (by simp; omega)] at he
    rw [decide_eq_true he]
end Go.Sx
