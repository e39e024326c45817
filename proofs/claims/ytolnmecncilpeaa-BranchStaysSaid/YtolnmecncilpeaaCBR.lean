/- Part of a proof: BranchStays, walked. -/
import Derived.Test.YtolnmecncilpeaaCBP
import Derived.Test.YtolnmecncilpeaaCBQ
namespace Go.Sx
open Go Go.Proofs
set_option maxRecDepth 10000
variable {w0 : World} {H : List Ck}
def Kd.mid (k : Kd) (i j : Nat) : Kd := ⟨Sx.sl k.pa k.pc i 1, k.pc - i, (k.ps.take j).drop i, Sx.sl k.ka k.kc i 1, k.kc - i, (k.ks.take (j - 1)).drop i⟩
theorem Kd.mid_d (k : Kd) (i j : Nat) : (k.mid i j).d = cutD k.d i j := by simp [Kd.mid, cutD, Kd.d, Kd.keys]
theorem RKd.mid {k : Kd} {i j : Nat} (h : RKd w0 H k) (h1 : i < j) (h2 : j ≤ k.ps.length) (h3 : k.ks.length + 1 = k.ps.length) : RKd w0 H (k.mid i j) :=
  ⟨(h.ps.take h2).drop (j := i) (by rw [List.length_take]; omega), (h.ks.take (k := j - 1) (by omega)).drop (j := i) (by rw [List.length_take]; omega), fun p hp => h.el p (List.mem_of_mem_take (List.mem_of_mem_drop hp))⟩
theorem Kd.mid_c {k : Kd} {i j : Nat} (h1 : i < j) (h2 : j ≤ k.ps.length) (h3 : k.ks.length + 1 = k.ps.length) : (k.mid i j).cells = [.slice (Sx.sl k.pa k.pc i 1) (j - i) (k.pc - i), .slice (Sx.sl k.ka k.kc i 1) (j - 1 - i) (k.kc - i)] := by
  have e1 : ((k.ps.take j).drop i).length = j - i := by rw [List.length_drop, List.length_take]; omega
  have e2 : ((k.ks.take (j - 1)).drop i).length = j - 1 - i := by rw [List.length_drop, List.length_take]; omega
  simp only [Kd.cells, Kd.mid, e1, e2]
theorem rep_self {d : List Int × List Bs} {i j : Nat} (h1 : i < j) : repD d (cutD d i j) i j = d := by
  have e : ∀ {α : Type} (l : List α) (m : Nat), i ≤ m → l.take i ++ (l.take m).drop i ++ l.drop m = l := by
    intro α l m hm
    have g1 : l.take i = (l.take m).take i := by rw [List.take_take, Nat.min_eq_left hm]
    rw [g1, List.take_append_drop, List.take_append_drop]
  exact Prod.ext (e d.1 j (by omega)) (e d.2 (j - 1) (by omega))
theorem brepW_ok {k q : Kd} {i j : Nat} (hk : RKd w0 H k) (hq : RKd w0 H q) (hw : KsmW k q) (h : repOk k.d q.d i j) (hI : k.ps.length ≤ 140737488355328) :
    FnS Try.prog w0 H 23 #[.agg k.cells.toArray, .int .i64 i, .int .i64 j, .agg q.cells.toArray] (fun v H' => ∃ x : Kd, v = .tuple #[.agg x.cells.toArray, .int .i64 0] ∧ x.d = repD k.d q.d i j ∧ H' = oK x :: H) := by
  have h4 : (j : Int) ≤ (k.ps.length : Int) := h.2.2.2.2
  have h5 := h.2.2.2.1
  refine FnS.mono (breplW_s (i := (i : Int)) (j := (j : Int)) hk hq ⟨by omega, by omega⟩ ⟨by omega, by omega⟩ hw) ?_
  rintro v H' ⟨x, rfl, hx, rfl⟩
  rw [if_pos h] at hx ⊢
  exact ⟨x, rfl, hx, rfl⟩
set_option maxHeartbeats 1000000 in
theorem bstays_s {k q : Kd} {size i j : Int} {a : Option Addr} {c : Nat} {key : Bs} (hk : RKd w0 H k) (hkI : ∀ n ∈ k.ps, I64 n) (hq : RKd w0 H q) (hqI : ∀ n ∈ q.ps, I64 n) (hqp : q.ps.length ≤ 17592186044416) (hqk : q.ks.length ≤ 5864062014805) (hql : ∀ p ∈ q.ks, p.xs.length ≤ 140737488355328) (hi : I64 i) (hj : I64 j) (ha : RBy w0 H a c key) :
    FnV Try.prog w0 H 9 #[.int .i64 size, .agg k.cells.toArray, .int .i64 i, .int .i64 j, .agg q.cells.toArray, .slice a key.length c] (.bool true) := by
  refine fns_enter Try.func9 rfl rfl rfl ?_
  refine s_kn (Kn.kp hk) fun l1 => s_kn (Kn.kk hk) fun l2 => s_kn (Kn.kp hq) fun l3 => s_kn (Kn.kk hq) fun l4 => ?_
  simp only [maxLen] at l1 l2 l3 l4
  have hkd : k.d.2.length = k.ks.length := by simp
  have hqd : q.d.2.length = q.ks.length := by simp
  have hkp : k.d.1.length = k.ps.length := rfl
  have hqp' : q.d.1.length = q.ps.length := rfl
  refine sx ?_
  refine s_boxA rfl fun b7 => ?_
  refine sx ?_
  refine s_boxA rfl fun b10 => ?_
  refine sx ?_
  refine s_callV rfl alive_s ?_
  refine sx ?_
  refine s_callV rfl (bcheck_s (k := k) (by exact rkd) hkI) ?_
  refine sx ?_
  refine s_lifn rfl (fun t1 => ?_) (fun t1 => ?_)
  · refine sx ?_
    exact s_ret1 rfl rfl ⟨rfl, rfl⟩
  refine sx ?_
  refine s_lif rfl (fun t2 => ?_) (fun t2 => ?_)
  · refine sx ?_
    exact s_ret1 rfl rfl ⟨rfl, rfl⟩
  refine sx ?_
  refine s_ifn rfl (fun t3 => ?_) (fun t3 => ?_)
  · refine sx ?_
    exact s_ret1 rfl rfl ⟨rfl, rfl⟩
  have hc := t1
  obtain ⟨c1, ⟨c2, c3, c4⟩, c5, c6, c7⟩ := chkK_0 t1
  have hky := ky_bd c1 c5
  have hpg := pg_bd c4
  have hkl : ∀ p ∈ k.ks, p.xs.length ≤ 140737488355328 := fun p hp => by
    have := (c5 p.xs (List.mem_map.2 ⟨p, hp, rfl⟩)).2
    have := (sizedB_bd c1).2
    omega
  have hbd := pkL_bd (c := i) (n := (k.ps.length : Int)) (by omega)
  refine sx ?_
  refine s_callV rfl (pick_s (c := i) (n := (k.ps.length : Int)) hi (by omega)) ?_
  obtain ⟨x, hx⟩ := Int.eq_ofNat_of_zero_le hbd.1
  rw [hx] at hbd
  refine s_rw (t := 48) (v' := .int .i64 (x : Int)) rfl (by rw [hx]) ?_
  refine sx ?_
  have hbe := pkL_bd (c := j) (n := (k.ps.length : Int) - (x : Int)) (by omega)
  refine s_callV rfl (pick_s (c := j) (n := (k.ps.length : Int) - (x : Int)) hj (by omega)) ?_
  obtain ⟨z, hz⟩ := Int.eq_ofNat_of_zero_le hbe.1
  rw [hz] at hbe
  refine s_rw (t := 57) (v' := .int .i64 (z : Int)) rfl (by rw [hz]) ?_
  obtain ⟨y, hy⟩ : ∃ y : Nat, y = x + 1 + z := ⟨_, rfl⟩
  refine sx ?_
  refine s_rw (t := 62) (v' := .int .i64 (y : Int)) rfl (ci (by omega)) ?_
  refine s_rw (t := 3) (v' := .int .i64 (y : Int)) rfl (ci (by omega)) ?_
  clear hx hz
  have hw : KsmW k q := ⟨by omega, by omega, hkl, hql⟩
  have hok : repOk k.d q.d x y := ⟨by omega, by omega, by omega, by omega, by omega⟩
  refine s_call rfl (brepW_ok (k := k) (q := q) (i := x) (j := y) (by exact rkd) (by exact rkd) hw hok (by omega)) ?_
  rintro _ _ ⟨r, rfl, hr, rfl⟩
  refine ⟨chk_seq, ?_⟩
  have hrp : r.ps = k.ps.take x ++ q.ps ++ k.ps.drop y := congrArg Prod.fst hr
  have hrk : r.keys = k.keys.take x ++ q.keys ++ k.keys.drop (y - 1) := congrArg Prod.snd hr
  have hrl : r.ps.length = k.ps.length - (y - x) + q.ps.length := by
    rw [hrp]
    simp only [List.length_append, List.length_take, List.length_drop]
    omega
  have hrI : ∀ n ∈ r.ps, I64 n := by
    intro n hn
    rw [hrp] at hn
    simp only [List.mem_append] at hn
    rcases hn with (hn | hn) | hn
    · exact hkI n (List.mem_of_mem_take hn)
    · exact hqI n hn
    · exact hkI n (List.mem_of_mem_drop hn)
  refine sx ?_
  refine s_alloc fun b14 => ?_
  refine sx ?_
  refine s_callV rfl (bchild_s (k := k) (key := key) (by exact rkd) (by exact rby)) ?_
  refine sx ?_
  refine s_callV rfl (bchild_s (k := r) (key := key) (by exact rkd) (by exact rby)) ?_
  refine sx ?_
  refine sx ?_; refine s_drH (.hb b14 31 r.cells :: oK r :: .hb b10 31 q.cells :: .hb b7 31 k.cells :: H) (.one true 0 (.one true 1 (.one true 2 (.one true 3 (.one true 4 (.one true 5 (.one true 6 (.one true 7 (.one true 8 (.one true 9 (.one true 10 (.one true 11 (.one false 12 (.one false 13 .nil)))))))))))))) mixed (by kernel_rfl) ?_; refine sx ?_
  refine s_rw (t := 82) rfl (ci (by omega : _ = ((y - 1 : Nat) : Int))) ?_
  refine sx ?_
  refine s_rw (t := 84) (v' := .agg (k.mid x y).cells.toArray) rfl (by rw [Kd.mid_c (by omega) (by omega) (by omega)]; rfl) ?_
  refine s_alloc fun b18 => ?_
  refine sx ?_
  have hmd := k.mid_d x y
  have hwm : KsmW k (k.mid x y) := ⟨by simp only [Kd.mid, List.length_drop, List.length_take]; omega, by simp only [Kd.mid, List.length_drop, List.length_take]; omega, hkl, fun p hp => hkl p (List.mem_of_mem_take (List.mem_of_mem_drop hp))⟩
  have hkk : k.keys.length = k.ks.length := List.length_map ..
  have hom : repOk k.d (k.mid x y).d x y := by
    rw [hmd]
    refine ⟨by omega, ?_, by omega, by omega, by omega⟩
    have e1 : (cutD k.d x y).2.length = y - 1 - x := by
      show ((k.keys.take (y - 1)).drop x).length = _
      rw [List.length_drop, List.length_take]
      omega
    have e2 : (cutD k.d x y).1.length = y - x := by
      show ((k.ps.take y).drop x).length = _
      rw [List.length_drop, List.length_take]
      omega
    rw [e1, e2]
    omega
  have rm : RKd w0 (.hb b18 31 (k.mid x y).cells :: .hb b14 31 r.cells :: oK r :: .hb b10 31 q.cells :: .hb b7 31 k.cells :: H) (k.mid x y) := RKd.mid (by exact rkd) (by omega) (by omega) (by omega)
  refine s_call rfl (brepW_ok (k := k) (q := k.mid x y) (i := x) (j := y) (by exact rkd) (by exact rm) hwm hom (by omega)) ?_
  rintro _ _ ⟨u, rfl, hu, rfl⟩
  refine ⟨chk_seq, ?_⟩
  rw [hmd, rep_self (by omega)] at hu
  refine sx ?_
  refine s_alloc fun b19 => ?_
  refine sx ?_
  refine s_callV rfl (rsame_t (k := u) (q := k) (by exact rkd) (by exact rkd) hu) ?_
  refine sx ?_
  refine s_ifn rfl (fun t4 => absurd (by omega) t4) (fun t4 => ?_)
  refine sx ?_
  refine s_callV rfl (bcheck_s (k := r) (by exact rkd) hrI) ?_
  refine sx ?_
  refine s_ifn rfl (fun t5 => ?_) (fun t5 => ?_)
  · refine sx ?_
    exact s_ret1 rfl rfl ⟨rfl, rfl⟩
  have hrr := (chkK_0 t5).2.2.2.1
  have hrr : risK (k.keys.take x ++ q.keys ++ k.keys.drop (y - 1)) = true := by rw [← hrk]; exact hrr
  obtain ⟨s1, s2, s3⟩ := stay_law (ks := k.keys) (bs := q.keys) (key := key) (i := x) (j := y) c6 hrr (by omega) (by rw [List.length_map]; omega)
  rw [← hrk, List.length_map] at s2 s3
  rw [← hrk] at s1
  refine sx ?_
  refine s_if rfl (fun t6 => ?_) (fun t6 => ?_)
  · refine sx ?_
    exact s_ret1 rfl rfl ⟨congrArg Value.bool (decide_eq_true (by rw [s1 (by omega)])), rfl⟩
  refine sx ?_
  refine s_if rfl (fun t7 => ?_) (fun t7 => ?_)
  · have := s2 (by omega)
    have g1 := chl_len k.keys key
    refine sx ?_
    exact s_ret1 rfl rfl ⟨congrArg Value.bool (decide_eq_true (by omega)), rfl⟩
  have := s3 (by omega) (by omega)
  refine sx ?_
  refine s_lif rfl (fun t8 => ?_) (fun t8 => absurd (by omega) t8)
  refine sx ?_
  exact s_ret1 rfl rfl ⟨congrArg Value.bool (decide_eq_true (by omega)), rfl⟩
end Go.Sx
