/- Part of a proof: the law LeafFits, walked. -/
import Derived.Test.YtbkaabjjmoaijaaM9
import Derived.Test.YtbkaabjjmoaijaaN1
namespace Go.Sx
open Go Go.Proofs
set_option maxRecDepth 10000
variable {w0 : World} {H : List Ck}

theorem wt_take {ps : Ps} {i : Nat} {e : Bs × Bs} (h : ps[i]? = some e) : wt (ps.take (i + 1)) = wt (ps.take i) + (1 + e.1.length + e.2.length) := by rw [take_snoc' h, wt_snoc]
theorem sum_wt : ∀ (p : Bs) (ps : Ps), sumB p ps ≤ wt ps + 5 * ps.length
  | _, [] => by simp [sumB]
  | p, e :: r => by have := sum_wt e.1 r; simp only [sumB, wt, List.length_cons]; omega
set_option maxHeartbeats 1000000 in
theorem fits_s {sz at' : Int} {la xa : Option Addr} {lc xc : Nat} {es : List KV} {e : KV} {r : Rg} {v8 v9 : Value} {xs : Bs} (hsz : I64 sz) (he : REn w0 H la lc es) (hz : ∀ e, e ∈ es → e.k.length ≤ 140737488351232 ∧ e.v.length ≤ 140737488351232)
    (hek : RBy w0 H e.ka e.kc e.k) (hev : RBy w0 H e.va e.vc e.v) (hez : e.k.length ≤ 140737488351232 ∧ e.v.length ≤ 140737488351232) (hr1 : RBy w0 H r.la r.lc r.lo) (hr2 : RBy w0 H r.ha r.hc r.hi) :
    FnV Try.prog w0 H 11 #[.agg #[.int .i64 sz, .int .i64 at', .slice la es.length lc, .slice e.ka e.k.length e.kc, .slice e.va e.v.length e.vc, .slice r.la r.lo.length r.lc, .slice r.ha r.hi.length r.hc, .bool r.all, v8, v9, .slice xa xs.length xc]] (.bool true) := by
  refine fns_enter Try.func11 rfl rfl rfl ?_
  have hsl : sizedL (sizeL sz) = true := sizeL_sized sz
  have hsb := sized_bd hsl
  refine sx ?_
  refine s_boxA rfl fun b1 => ?_
  refine sx ?_
  refine s_callV rfl shown_s ?_
  refine sx ?_
  refine s_callV rfl (sizes_s hsz) ?_
  generalize sizeL sz = size at hsl hsb ⊢
  refine sx ?_
  refine s_alloc fun b6 => ?_
  refine sx ?_
  refine s_alloc fun b7 => ?_
  refine sx ?_
  have hz1 : ∀ x, x ∈ [e] → x.k.length ≤ 140737488351232 ∧ x.v.length ≤ 140737488351232 := by simpa using hez
  have hup : ∀ fs : List KV, (∀ x, x ∈ fs → x.k.length ≤ 140737488351232 ∧ x.v.length ≤ 140737488351232) → wB 0 (fs.map KV.p) ≤ 400000000000000 := fun fs hf => wB_up (by decide) _ 0 (fun x hx => by
    obtain ⟨y, hy, rfl⟩ := List.mem_map.1 hx
    exact hf y hy) (by decide)
  have u1 := hup es hz
  have u2 := hup [e] hz1
  refine s_cut (ι := Unit) (fun _ => [(1, .pointer (some ⟨b1, 0, none⟩)), (3, .bool true), (4, .int .i64 size), (5, .slice la es.length lc), (6, .pointer (some ⟨b6, 0, none⟩)), (7, .pointer (some ⟨b7, 0, none⟩)), (33, .bool (decide ((2147483647 : Int) < ((wB 0 (es.map KV.p) : Nat) : Int) + ((wB 0 ([e].map KV.p) : Nat) : Int))))])
    (fun _ => .hb b7 49 r.cells :: .hb b6 47 e.cells :: .hb b1 51 [.int .i64 sz, .int .i64 at', .slice la es.length lc, .slice e.ka e.k.length e.kc, .slice e.va e.v.length e.vc, .slice r.la r.lo.length r.lc, .slice r.ha r.hi.length r.hc, .bool r.all, v8, v9, .slice xa xs.length xc] :: H) (fun _ => True) ?_ (fun _ _ => ?_)
  · refine sx ?_; refine s_dr (.one true 0 (.one true 2 (.alt (.one false 1 (.one false 3 (.one false 4 (.one true 5 (.one true 6 .nil))))) (.one false 3 (.one false 1 (.one false 4 (.one true 5 (.one true 6 .nil)))))))) mixed (by kernel_rfl) ?_; refine sx ?_
    refine s_alt ?_ ?_
    · refine s_callV rfl (weight_s (by exact ren) hz) ?_
      refine s_bsl [e] rfl rfl fun b9 => ?_
      refine s_callV rfl (weight_s (es := [e]) (REn.mk (by exact rsl) (by intro x hx; simp only [List.mem_singleton] at hx; subst hx; exact ⟨rby, rby⟩)) hz1) ?_
      refine sx ?_
      exact s_mid () trivial
    · refine s_bsl [e] rfl rfl fun b9 => ?_
      refine s_callV rfl (weight_s (by exact ren) hz) ?_
      refine s_callV rfl (weight_s (es := [e]) (REn.mk (by exact rsl) (by intro x hx; simp only [List.mem_singleton] at hx; subst hx; exact ⟨rby, rby⟩)) hz1) ?_
      refine sx ?_
      exact s_mid () trivial
  refine sx ?_
  refine s_if rfl (fun hw => ?_) (fun hw => ?_)
  · refine sx ?_
    exact s_ret1 rfl rfl ⟨rfl, rfl⟩
  have hwt := (wB_le 0 (es.map KV.p)).1 (by omega)
  have hwe := (wB_le 0 ([e].map KV.p)).1 (by omega)
  simp only [List.map_cons, List.map_nil, wt, KV.p] at hwe
  have hwl := wt_len (es.map KV.p)
  have hL : (es.map KV.p).length = es.length := by simp
  rw [hL] at hwl
  have hby := bytes_le (ps := es.map KV.p)
  have hsw := sum_wt [] (es.map KV.p)
  rw [hL] at hsw
  refine sx ?_
  refine s_callV rfl (lcheck_s (by exact ren) (by simp only [Small]; omega) (by omega)) ?_
  refine sx ?_
  refine s_callV rfl (lbytes_s (by exact ren) (by simp only [Small]; omega)) ?_
  refine sx ?_
  refine s_ifn rfl (fun hc => ?_) (fun hc => ?_)
  · refine sx ?_
    exact s_ret1 rfl rfl ⟨rfl, rfl⟩

  have hrise : Rise (es.map KV.p) := (may_iff.1 ((chk_iff hsl).1 hc).1).2
  have hfit := ((chk_iff hsl).1 hc).2
  refine sx ?_
  refine s_loop (fun i : Nat => [(3, .bool true), (4, .int .i64 size), (5, .slice la es.length lc), (6, .pointer (some ⟨b6, 0, none⟩)), (7, .pointer (some ⟨b7, 0, none⟩)), (9, .int .i64 (bytesL (es.map KV.p))), (10, .int .i64 ((2 + wt ((es.map KV.p).take i) + 5 * i : Nat) : Int)), (11, .int .i64 i)])
    (fun _ => .hb b7 49 r.cells :: .hb b6 47 e.cells :: .hb b1 51 [.int .i64 sz, .int .i64 at', .slice la es.length lc, .slice e.ka e.k.length e.kc, .slice e.va e.v.length e.vc, .slice r.la r.lo.length r.lc, .slice r.ha r.hi.length r.hc, .bool r.all, v8, v9, .slice xa xs.length xc] :: H) (fun i => i ≤ es.length) (fun i => es.length - i) 0 (Nat.zero_le _) ?_
  intro i hi
  have hti := wt_sub (List.take_sublist i (es.map KV.p))
  refine sx ?_
  refine s_if rfl (fun t1 => ?_) (fun t1 => ?_)
  · obtain ⟨x, hix⟩ := get_lt es i (by omega)
    have htn := wt_take (map_get hix)
    have htj := wt_sub (List.take_sublist (i + 1) (es.map KV.p))
    have hk1 := he.key (List.mem_of_getElem? hix)
    have hk2 := he.val (List.mem_of_getElem? hix)
    simp only at htn
    refine sx ?_; refine s_dr (.one true 0 (.one true 1 (.one true 2 (.one true 3 (.one true 4 (.one true 5 (.one true 6 (.one true 7 (.one true 8 (.one true 9 (.one true 10 (.one true 11 (.one true 12 (.one true 13 (.one true 14 (.one true 15 (.one true 16 .nil))))))))))))))))) mixed (by kernel_rfl) ?_; refine sx ?_
    refine s_again (i + 1) (by omega) (by omega)
  obtain rfl : i = es.length := by omega
  rw [List.take_of_length_le (by omega)]
  refine sx ?_
  refine s_call rfl (lcut_s (r := r) (by exact ren) (by exact rby) (by exact rby) (by simp only [Small]; omega)) ?_
  rintro _ _ ⟨a3, c3, bs, rfl, hbs, rfl⟩
  refine ⟨chk_seq, ?_⟩
  have hbsub : (bs.map KV.p).Sublist (es.map KV.p) := by rw [hbs]; exact List.filter_sublist
  have hbw := wt_sub hbsub
  have hbc := chk_sub hsl hbsub hc
  have hbb := bytes_sub hbsub
  refine sx ?_
  have hcl : FnV Try.prog w0 (oe a3 c3 bs :: .hb b7 49 r.cells :: .hb b6 47 e.cells :: .hb b1 51 [.int .i64 sz, .int .i64 at', .slice la es.length lc, .slice e.ka e.k.length e.kc, .slice e.va e.v.length e.vc, .slice r.la r.lo.length r.lc, .slice r.ha r.hi.length r.hc, .bool r.all, v8, v9, .slice xa xs.length xc] :: H) 37 #[.int .i64 size, .slice a3 bs.length c3] (.int .i64 0) := by
    have h := lcheck_s (w0 := w0) (H := oe a3 c3 bs :: .hb b7 49 r.cells :: .hb b6 47 e.cells :: .hb b1 51 [.int .i64 sz, .int .i64 at', .slice la es.length lc, .slice e.ka e.k.length e.kc, .slice e.va e.v.length e.vc, .slice r.la r.lo.length r.lc, .slice r.ha r.hi.length r.hc, .bool r.all, v8, v9, .slice xa xs.length xc] :: H) (a := a3) (c := c3) (es := bs) (by exact ren) (by simp only [Small]; omega) (size := size) (by omega)
    rwa [hbc] at h
  refine s_lif rfl (fun t => by simp only [bytesL] at t; omega) (fun _ => ?_)
  refine sx ?_
  refine s_lif rfl (fun t => by omega) (fun _ => ?_)
  refine sx ?_
  refine s_callV rfl hcl ?_
  refine sx ?_
  refine s_callV rfl (lbytes_s (es := bs) (by exact ren) (by simp only [Small]; omega)) ?_
  refine sx ?_
  refine s_if rfl (fun t => by omega) (fun _ => ?_)
  refine sx ?_
  refine s_bsl [e] rfl rfl fun b9 => ?_
  refine s_callV rfl (lcheck_s (es := [e]) (REn.mk (by exact rsl) (by intro x hx; simp only [List.mem_singleton] at hx; subst hx; exact ⟨rby, rby⟩)) (by simp only [Small, List.map_cons, List.map_nil, wt, KV.p]; omega) (by omega)) ?_
  refine sx ?_
  refine s_ifn rfl (fun h1 => ?_) (fun h1 => ?_)
  · have hbad : ¬ (1 ≤ e.k.length ∧ (e.k.length : Int) ≤ size / 16 ∧ (e.v.length : Int) ≤ size / 4) := fun g => h1 (chk_one hsl (e := e.p) g)
    refine sx ?_
    refine s_lif rfl (fun t2 => ?_) (fun t2 => ?_)
    · refine sx ?_
      exact s_ret1 rfl rfl ⟨rfl, rfl⟩
    refine sx ?_
    refine s_lif rfl (fun t3 => ?_) (fun t3 => ?_)
    · refine sx ?_
      exact s_ret1 rfl rfl ⟨rfl, rfl⟩
    refine sx ?_
    refine s_ret1 rfl rfl ⟨congrArg Value.bool (decide_eq_true ?_), rfl⟩
    by_cases g : size / 4 < (e.v.length : Int)
    · exact g
    · exact absurd ⟨by omega, by omega, by omega⟩ hbad
  have hlo : LenOk size e.p := (may_iff.1 ((chk_iff hsl).1 h1).1).1 e.p (List.mem_cons_self ..)
  refine sx ?_
  refine s_call rfl (lset_s (e := e) (by exact ren) (by exact rby) (by exact rby) hrise (by simp only [Small]; omega) (by omega)) ?_
  rintro _ _ ⟨a4, c4, ms, rfl, hms, rfl⟩
  refine ⟨chk_seq, ?_⟩
  have hmw : wt (ms.map KV.p) ≤ 8589934592 := by rw [hms]; have := wt_setL (es.map KV.p) e.p; simp only [KV.p] at this ⊢; omega
  have hml := wt_len (ms.map KV.p)
  have hmL : (ms.map KV.p).length = ms.length := by simp
  rw [hmL] at hml
  refine sx ?_
  refine s_callV rfl (lcheck_s (es := ms) (by exact ren) (by simp only [Small]; omega) (by omega)) ?_
  refine sx ?_
  refine s_if rfl (fun h2 => ?_) (fun h2 => ?_)
  · refine sx ?_
    exact s_ret1 rfl rfl ⟨rfl, rfl⟩
  obtain ⟨f1, f2, k, f3, k1, k2, f4, f5⟩ := fit_split hsl hc hlo (by rw [← hms]; exact h2)
  rw [← hms] at f1 f2 f3 k2 f4 f5
  rw [hmL] at k2
  have hsp := lsplit_s (w0 := w0) (H := oe a4 c4 ms :: ol 47 (some ⟨b9, 0, none⟩) 1 [e] :: oe a3 c3 bs :: .hb b7 49 r.cells :: .hb b6 47 e.cells :: .hb b1 51 [.int .i64 sz, .int .i64 at', .slice la es.length lc, .slice e.ka e.k.length e.kc, .slice e.va e.v.length e.vc, .slice r.la r.lo.length r.lc, .slice r.ha r.hi.length r.hc, .bool r.all, v8, v9, .slice xa xs.length xc] :: H) (a := a4) (c := c4) (es := ms) (by exact ren) (by simp only [Small]; omega) (size := size) (by omega)
  rw [f2, f3] at hsp
  have hen : REn w0 (oe a4 c4 ms :: ol 47 (some ⟨b9, 0, none⟩) 1 [e] :: oe a3 c3 bs :: .hb b7 49 r.cells :: .hb b6 47 e.cells :: .hb b1 51 [.int .i64 sz, .int .i64 at', .slice la es.length lc, .slice e.ka e.k.length e.kc, .slice e.va e.v.length e.vc, .slice r.la r.lo.length r.lc, .slice r.ha r.hi.length r.hc, .bool r.all, v8, v9, .slice xa xs.length xc] :: H) a4 c4 ms := by exact ren
  have hsl' : RSl w0 (oe a4 c4 ms :: ol 47 (some ⟨b9, 0, none⟩) 1 [e] :: oe a3 c3 bs :: .hb b7 49 r.cells :: .hb b6 47 e.cells :: .hb b1 51 [.int .i64 sz, .int .i64 at', .slice la es.length lc, .slice e.ka e.k.length e.kc, .slice e.va e.v.length e.vc, .slice r.la r.lo.length r.lc, .slice r.ha r.hi.length r.hc, .bool r.all, v8, v9, .slice xa xs.length xc] :: H) a4 c4 ms := by exact rsl
  have hc1 := lcheck_s hen (by simp only [Small]; omega) (size := size) (by omega)
  rw [f1] at hc1
  have hc2 := lcheck_s (REn.sub (hsl'.take (k := k) (by omega)) hen (fun _ h => List.mem_of_mem_take h)) (by have := wt_sub (List.take_sublist k (ms.map KV.p)); rw [← List.map_take] at this; simp only [Small]; omega) (size := size) (by omega)
  rw [List.map_take, f4, List.length_take, Nat.min_eq_left (by omega)] at hc2
  have hc3 := lcheck_s (REn.sub (hsl'.drop (j := k) (by omega)) hen (fun _ h => List.mem_of_mem_drop h)) (by have := wt_sub (List.drop_sublist k (ms.map KV.p)); rw [← List.map_drop] at this; simp only [Small]; omega) (size := size) (by omega)
  rw [List.map_drop, f5, List.length_drop] at hc3
  refine sx ?_
  refine s_callV rfl hsp ?_
  refine sx ?_
  refine s_lif rfl (fun t => by omega) (fun _ => ?_)
  refine sx ?_
  refine s_if rfl (fun t => by omega) (fun _ => ?_)
  refine sx ?_
  refine s_callV rfl hc1 ?_
  refine s_knL (Kn.en hen) fun l1 => ?_
  simp only [maxLen] at l1
  refine sx ?_
  refine s_callV rfl hc2 ?_
  refine sx ?_
  refine s_callV rfl hc3 ?_
  refine sx ?_
  exact s_ret1 rfl rfl ⟨rfl, rfl⟩
end Go.Sx
