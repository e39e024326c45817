/- A message in new memory; what messages do within a range; by the program. -/
import Derived.Test.YtimakbpghggdfaaGreatCGAj
import Derived.Test.YtimakbpghggdfaaGreatCKB
namespace Go.Sx
open Go Go.Proofs
set_option maxRecDepth 10000
variable {w0 : World} {H : List Ck}
set_option maxHeartbeats 2000000 in
theorem magain_s {m : Mg} (hm : RMg w0 H m) (h1 : m.lo.length ≤ 140737488355328) (h2 : m.hi.length ≤ 140737488355328) (h3 : m.v.length ≤ 140737488355328) : FnS Tryz.prog w0 H 52 #[.agg m.cells.toArray] (fun v H' => ∃ m' : Mg, v = .agg m'.cells.toArray ∧ m'.d = m.d ∧ H' = oM m' ++ H) := by
  refine fns_enter Tryz.func52 rfl rfl rfl ?_
  have hlo := hm.lo
  have hhi := hm.hi
  have hv := hm.v
  refine sx ?_
  refine s_boxA rfl fun b1 => ?_
  refine sx ?_
  refine s_alloc fun b2 => ?_
  refine sx ?_
  refine s_drU (.hb b1 35 m.cells :: H) (.one true 0 (.one true 1 (.one true 3 (.one true 4 (.one true 6 (.one true 7 (.one false 2 (.one true 9 (.one false 5 (.one false 8 .nil)))))))))) (.one false 10 (.one true 11 (.one false 12 (.one true 13 (.one false 14 .nil))))) [10, 12, 14] #[true, true, true, true, true, true, true, true, true, true, false, false, false, false, false] mixed (by kernel_rfl) ?_
  refine sx ?_
  refine s_call rfl (mcopied_s (xs := m.lo) (by exact rby) h1) ?_
  rintro _ _ ⟨a5, rfl, rfl⟩
  refine ⟨chk_held (by exact ent), ?_⟩
  refine sx ?_
  refine s_call rfl (mcopied_s (xs := m.hi) (by exact rby) h2) ?_
  rintro _ _ ⟨a8, rfl, rfl⟩
  refine ⟨chk_held (by exact ent), ?_⟩
  refine sx ?_
  refine s_call rfl (mcopied_s (xs := m.v) (by exact rby) h3) ?_
  rintro _ _ ⟨a11, rfl, rfl⟩
  refine ⟨chk_held (by exact ent), ?_⟩
  refine sx ?_
  refine s_bar ?_
  refine sx ?_
  exact s_retc rfl rfl (by exact at_) rfl ⟨⟨m.st, m.kd, a5, m.lo.length, m.lo, a8, m.hi.length, m.hi, a11, m.v.length, m.v⟩, rfl, rfl, rfl⟩ (by exact ent)
/-- What a message does within a range. -/
def wthM (r : T3) (m : MD) : Option MD := if emR (meR (saidR m) r) = true then none else some (if m.kd = 3 then ⟨m.st, m.kd, (meR (saidR m) r).1, (meR (saidR m) r).2.1, m.v⟩ else m)
def withinL (r : T3) (l : List MD) : List MD := l.filterMap (wthM r)
structure WiJ where
  i : Nat
  a : Option Addr
  c : Nat
  ms : List Mg
set_option maxHeartbeats 2000000 in
theorem mwithin_s {a : Option Addr} {c : Nat} {ms : List Mg} {r : Rg} (hx : RMs w0 H a c ms) (hr : RRg w0 H r) (hl : ms.length ≤ 1099511627776) (hz : ∀ m ∈ ms, m.lo.length ≤ 140737488355327 ∧ m.hi.length ≤ 140737488355328 ∧ m.v.length ≤ 140737488355328) (hl1 : r.lo.length ≤ 140737488355328 ∧ r.hi.length ≤ 140737488355328) :
    FnS Tryz.prog w0 H 22 #[.slice a ms.length c, .agg r.cells.toArray] (fun v H' => ∃ a' c' ls, v = .slice a' (ls : List Mg).length c' ∧ ls.map Mg.d = withinL r.d (ms.map Mg.d) ∧ H' = ol 35 a' c' ls :: stars oM ls :: H) := by
  refine fns_enter Tryz.func22 rfl rfl rfl ?_
  have hsl := hx.sl
  refine s_kn (Kn.sl hsl) fun l1 => ?_
  simp only [maxLen] at l1
  refine sx ?_
  refine s_boxA rfl fun b3 => ?_
  refine sx ?_
  refine s_loop (fun q : WiJ => [(3, .pointer (some ⟨b3, 0, none⟩)), (5, .slice q.a q.ms.length q.c), (9, .slice a ms.length c), (10, .int .i64 ms.length), (11, .int .i64 q.i)]) (fun q => ol 35 q.a q.c q.ms :: stars oM q.ms :: .hb b3 53 r.cells :: H) (fun q => q.i ≤ ms.length ∧ q.ms.length ≤ q.i ∧ q.ms.map Mg.d = withinL r.d ((ms.map Mg.d).take q.i)) (fun q => ms.length - q.i) ⟨0, none, 0, []⟩ ⟨Nat.zero_le _, Nat.zero_le _, by simp [withinL]⟩ ?_ (he := Ent.nilS.trans (Ent.head stars_nil))
  rintro ⟨i, oa, oc, os⟩ ⟨g1, g2, g3⟩
  simp only at g1 g2 g3 ⊢
  refine sx ?_
  refine s_if rfl (fun t1 => ?_) (fun t1 => ?_)
  · obtain ⟨m, hm⟩ := get_lt ms i (by omega)
    have hmd := get_map (f := Mg.d) hm
    have hrm := hx.el m (List.mem_of_getElem? hm)
    obtain ⟨z1, z2, z3⟩ := hz m (List.mem_of_getElem? hm)
    have hst : withinL r.d ((ms.map Mg.d).take (i + 1)) = withinL r.d ((ms.map Mg.d).take i) ++ (wthM r.d m.d).toList := by
      rw [snocT hmd, withinL, withinL, List.filterMap_append]
      congr 1
    rw [← g3] at hst
    refine sx ?_
    refine s_alloc fun b7 => ?_
    have stp : StopAt 5 := trivial
    refine sxs ?_
    clear stp
    refine s_cut (ι := Nat × Rg) (fun q => [(3, .pointer (some ⟨b3, 0, none⟩)), (5, .slice oa os.length oc), (7, .pointer (some ⟨b7, 0, none⟩)), (8, .pointer (some ⟨q.1, 0, none⟩)), (9, .slice a ms.length c), (10, .int .i64 ms.length), (11, .int .i64 i)]) (fun q => .hb q.1 53 q.2.cells :: oR q.2 :: .hb b7 35 m.cells :: ol 35 oa oc os :: stars oM os :: .hb b3 53 r.cells :: H) (fun q => q.2.d = meR (saidR m.d) r.d) ?_ ?_
    · have hrs : ∀ x : Rg, x.d = saidR m.d → x.lo.length ≤ 140737488355328 ∧ x.hi.length ≤ 140737488355328 := fun x hxd => by
        have e1 : x.lo = (saidR m.d).1 := congrArg Prod.fst hxd
        have e2 : x.hi = (saidR m.d).2.1 := congrArg (fun t => t.2.1) hxd
        rw [e1, e2]
        unfold saidR
        split
        · simp only [List.length_append, List.length_cons, List.length_nil]; constructor <;> omega
        · split
          · exact ⟨by simp only; omega, by simp only; omega⟩
          · exact ⟨Nat.zero_le _, Nat.zero_le _⟩
      refine sx ?_; refine s_dr (.one true 0 (.one true 2 (.alt (.one false 1 (.alt (.one false 3 (.one false 4 (.one false 5 .nil))) (.one false 4 (.one false 3 (.one false 5 .nil))))) (.one false 4 (.one false 1 (.one false 3 (.one false 5 .nil))))))) mixed (by kernel_rfl) ?_; refine sx ?_
      repeat' (first
        | refine sx1 ?_
        | with_reducible (refine s_alt ?_ ?_)
        | (refine s_call rfl (msaid_s (m := m) (by exact rmg) z1) ?_; rintro _ _ ⟨x, xa, xc, xx, rfl, hxd, rfl, hxr⟩; refine ⟨chk_held (by exact ent), ?_⟩)
        | (refine s_call rfl (omeet_s (r := x) (q := r) (by exact rrg) (by exact rrg) (hrs x hxd) hl1) ?_; rintro _ _ ⟨y, rfl, hyd, rfl⟩; refine ⟨chk_held (by exact ent), ?_⟩)
        | refine s_alloc fun b8 => ?_
        | (refine s_mid (b8, y) (by simp only; rw [hyd, hxd]) (he := ?_); exact Ent.cons (by exact rm) (Ent.cons (by exact rm) (by exact ent)))
        | fail)
    rintro ⟨b8, y⟩ hyd
    simp only at hyd ⊢
    refine sx ?_
    refine s_callV rfl (oempty_s (r := y) (by exact rrg)) ?_
    unfold wthM at hst
    rw [← hyd] at hst
    cases he : emR y.d
    · rw [he, if_neg (by decide)] at hst
      refine sx ?_
      refine s_call rfl (magain_s (m := m) (by exact rmg) (by omega) z2 z3) ?_
      rintro _ _ ⟨m', rfl, hm', rfl⟩
      refine ⟨chk_seq, ?_⟩
      refine sx ?_
      have hkd : m'.kd = m.kd := congrArg MD.kd hm'
      refine s_if rfl (fun t2 => ?_) (fun t2 => ?_)
      · have e3 : (if m.d.kd = 3 then (⟨m.d.st, m.d.kd, y.d.1, y.d.2.1, m.d.v⟩ : MD) else m.d) = ⟨m.d.st, m.d.kd, y.d.1, y.d.2.1, m.d.v⟩ := if_pos (show m.kd = 3 by omega)
        rw [e3] at hst
        refine sx ?_
        refine sx ?_; refine s_drH ([.hb b8 53 y.cells]) (.one true 0 (.one true 1 (.one true 2 (.one true 3 (.one true 4 (.one false 5 (.one true 6 (.one false 7 .nil)))))))) mixed (by kernel_rfl) ?_; refine sx ?_
        refine s_rw (t := 33) (v' := .agg (Mg.cells ⟨m'.st, m'.kd, y.la, y.lc, y.lo, y.ha, y.hc, y.hi, m'.va, m'.vc, m'.v⟩).toArray) rfl rfl ?_
        refine s_bsl [(⟨m'.st, m'.kd, y.la, y.lc, y.lo, y.ha, y.hc, y.hi, m'.va, m'.vc, m'.v⟩ : Mg)] rfl rfl fun b34 => ?_
        refine s_app (xs := os) (ys := [(⟨m'.st, m'.kd, y.la, y.lc, y.lo, y.ha, y.hc, y.hi, m'.va, m'.vc, m'.v⟩ : Mg)]) ?_ (hby := by simp only [List.length_cons, List.length_nil]; omega)
        intro a4 c4
        refine sx ?_
        refine s_again ⟨i + 1, a4, c4, os ++ [⟨m'.st, m'.kd, y.la, y.lc, y.lo, y.ha, y.hc, y.hi, m'.va, m'.vc, m'.v⟩]⟩ ⟨by simp only; omega, by simp only [List.length_append, List.length_cons, List.length_nil]; omega, ?_⟩ (by simp only; omega) (he := ?_)
        · simp only [List.map_append]
          rw [hst]
          congr 1
          have h1 : m'.st = m.st := congrArg MD.st hm'
          have h2 : m'.v = m.v := congrArg MD.v hm'
          show [MD.mk m'.st m'.kd y.lo y.hi m'.v] = [MD.mk m.st m.kd y.lo y.hi m.v]
          rw [h1, h2, hkd]
        · refine Ent.cons (by exact rm) ?_
          refine Ent.trans (H' := oR y :: ob m'.va m'.vc m'.v :: stars oM os :: .hb b3 53 r.cells :: H) (by exact ent) ?_
          exact Ent.trans (H' := ob y.la y.lc y.lo :: ob y.ha y.hc y.hi :: ob m'.va m'.vc m'.v :: stars oM os :: .hb b3 53 r.cells :: H) (Ent.open Ent.refl) (stars_snoc (f := oM) (s := ⟨m'.st, m'.kd, y.la, y.lc, y.lo, y.ha, y.hc, y.hi, m'.va, m'.vc, m'.v⟩))
      · have e3 : (if m.d.kd = 3 then (⟨m.d.st, m.d.kd, y.d.1, y.d.2.1, m.d.v⟩ : MD) else m.d) = m.d := if_neg (show ¬ m.kd = 3 by omega)
        rw [e3] at hst
        refine sx ?_
        refine s_bsl [m'] rfl rfl fun b34 => ?_
        refine s_app (xs := os) (ys := [m']) ?_ (hby := by simp only [List.length_cons, List.length_nil]; omega)
        intro a4 c4
        refine sx ?_
        refine s_again ⟨i + 1, a4, c4, os ++ [m']⟩ ⟨by simp only; omega, by simp only [List.length_append, List.length_cons, List.length_nil]; omega, ?_⟩ (by simp only; omega) (he := ?_)
        · simp only [List.map_append]
          rw [hst]
          congr 1
          show [m'.d] = [m.d]
          rw [hm']
        · refine Ent.cons (by exact rm) ?_
          exact Ent.trans (H' := ob m'.la m'.lc m'.lo :: ob m'.ha m'.hc m'.hi :: ob m'.va m'.vc m'.v :: stars oM os :: .hb b3 53 r.cells :: H) (by exact ent) (stars_snoc (f := oM) (s := m'))
    · rw [he, if_pos rfl, Option.toList_none, List.append_nil] at hst
      refine sx ?_
      exact s_again ⟨i + 1, oa, oc, os⟩ ⟨by simp only; omega, by simp only; omega, hst.symm⟩ (by simp only; omega)
  · obtain rfl : i = ms.length := by omega
    rw [List.take_of_length_le (by simp)] at g3
    refine sx ?_
    exact s_ret1 rfl rfl ⟨oa, oc, os, rfl, g3, rfl⟩
end Go.Sx

