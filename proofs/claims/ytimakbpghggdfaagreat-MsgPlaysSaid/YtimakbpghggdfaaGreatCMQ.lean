/- Part of a proof: the document's stable order of entries, by numbers, walked. -/
import Derived.Test.YtimakbpghggdfaaGreatCMPj
import Derived.Test.YtimakbpghggdfaaGreatCQ1j
import Derived.Test.YtimakbpghggdfaaGreatCSWOj
namespace Go.Sx
open Go Go.Proofs
set_option maxRecDepth 10000
variable {w0 : World} {H : List Ck}
def kvAt (es : List KV) (i : Int) : KV := es.getD i.toNat ⟨none, 0, [], none, 0, []⟩
def InE (es : List KV) (ns : List Int) : Prop := ∀ n ∈ ns, 0 ≤ n ∧ n < es.length
theorem kvAt_get {es : List KV} {n : Int} (h : 0 ≤ n ∧ n < es.length) : es[n.toNat]? = some (kvAt es n) := by
  unfold kvAt
  rw [List.getD_eq_getElem?_getD, List.getElem?_eq_getElem (by omega)]
  rfl
structure SbI where
  i : Nat
  k : Nat
  a : Option Addr
  c : Nat
  os : List Int
abbrev StbR (w0 : World) (es : List KV) (ns : List Int) (H : List Ck) : Value → List Ck → Prop := fun v H' => ∃ a c ms L, v = .slice a (ms : List Int).length c ∧ Mrg (ns.map (kvAt es)) (ms.map (kvAt es)) ∧ InE es ms ∧ H' = .star L :: H ∧ RSl w0 H' a c ms
set_option maxHeartbeats 4000000 in
theorem rstable_s {a : Option Addr} {c : Nat} {es : List KV} (_hl : es.length ≤ 549755813888) : ∀ (n : Nat) {H : List Ck} {b : Option Addr} {d : Nat} {ns : List Int}, RSl w0 H a c es → (∀ e ∈ es, RBy w0 H e.ka e.kc e.k) → RSl w0 H b d ns → InE es ns → ns.length ≤ n → ns.length ≤ 549755813888 →
    FnS Tryz.prog w0 H 152 #[.slice a es.length c, .slice b ns.length d] (StbR w0 es ns H) := by
  intro n
  induction n with
  | zero =>
    intro H b d ns hx hr hy hi hn hm
    obtain rfl : ns = [] := List.eq_nil_of_length_eq_zero (by omega)
    refine fns_enter Tryz.func152 rfl rfl rfl ?_
    refine sx ?_
    exact s_ret1 rfl rfl ⟨b, d, [], [], rfl, ⟨Stb.refl _, Asc.nil⟩, hi, rfl, hy.tl⟩ Ent.star0
  | succ n ih =>
    intro H b d ns hx hr hy hi hn hm
    refine fns_enter Tryz.func152 rfl rfl rfl ?_
    refine s_kn (Kn.sl hy) fun ⟨l1, l2⟩ => ?_
    simp only [maxLen] at l2
    refine sx ?_
    refine s_if rfl (fun t1 => ?_) (fun t1 => ?_)
    · refine sx ?_
      refine s_ret1 rfl rfl ⟨b, d, ns, [], rfl, ⟨Stb.refl _, ?_⟩, hi, rfl, hy.tl⟩ Ent.star0
      rcases ns with _ | ⟨x, _ | ⟨y, r⟩⟩
      · exact Asc.nil
      · exact Asc.one _
      · simp only [List.length_cons] at t1; omega
    refine sx ?_
    obtain ⟨m, hm2⟩ : ∃ m, m = ns.length / 2 := ⟨_, rfl⟩
    refine s_rw (t := 20) (v' := .int .i64 (m : Int)) rfl (by rw [hm2]; norm_cast) ?_
    refine s_yS rfl rfl rfl (y_slT (k := m) rfl rfl (by omega)) ?_
    have hi1 : InE es (ns.take m) := fun x h => hi x (List.mem_of_mem_take h)
    have hi2 : InE es (ns.drop m) := fun x h => hi x (List.mem_of_mem_drop h)
    have hlt : (ns.take m).length = m := by rw [List.length_take]; omega
    have hld : (ns.drop m).length = ns.length - m := List.length_drop
    have c1 := ih hx hr (hy.take (k := m) (by omega)) hi1 (by omega) (by omega)
    rw [hlt] at c1
    refine sx ?_
    refine s_call rfl c1 ?_
    rintro _ _ ⟨pa, pc, A, LA, rfl, hMA, hIA, rfl, hRA⟩
    refine ⟨chk_seq, ?_⟩
    refine sx ?_
    refine s_rw (t := 27) (v' := .int .i64 (m : Int)) rfl (by rw [hm2]; norm_cast) ?_
    refine s_yS rfl rfl rfl (y_slF (k := m) rfl rfl (by omega)) ?_
    have c2 := ih (H := .star LA :: H) hx.tl (fun e he => (hr e he).tl) ((hy.drop (j := m) (by omega)).tl) hi2 (by omega) (by omega)
    rw [hld] at c2
    refine sx ?_
    refine s_call rfl c2 ?_
    rintro _ _ ⟨qa, qc, B, LB, rfl, hMB, hIB, rfl, hRB⟩
    refine ⟨chk_seq, ?_⟩
    have hlA : A.length = m := by have := hMA.st.len; simp only [List.length_map] at this; omega
    have hlB : B.length = ns.length - m := by have := hMB.st.len; simp only [List.length_map] at this; omega
    obtain ⟨key, hkey⟩ : ∃ key : Int → Bs, key = fun i => (kvAt es i).k := ⟨_, rfl⟩
    refine sx ?_
    refine s_loop (fun q : SbI => [(0, .slice a es.length c), (5, .slice pa A.length pc), (6, .slice qa B.length qc), (7, .slice q.a q.os.length q.c), (8, .int .i64 q.i), (9, .int .i64 q.k)]) (fun q => ol 3 q.a q.c q.os :: .star LB :: .star LA :: H) (fun q => q.i ≤ A.length ∧ q.k ≤ B.length ∧ q.os.length = q.i + q.k ∧ q.os ++ mrgL key (A.drop q.i) (B.drop q.k) = mrgL key A B) (fun q => (A.length - q.i) + (B.length - q.k)) ⟨0, 0, none, 0, []⟩ ⟨Nat.zero_le _, Nat.zero_le _, rfl, by simp⟩ ?_ (he := Ent.nilS)
    rintro ⟨i, k, oa, oc, os⟩ ⟨g1, g2, g3, g4⟩
    simp only at g1 g2 g3 g4 ⊢
    have hRA' : RSl w0 (ol 3 oa oc os :: .star LB :: .star LA :: H) pa pc A := hRA.tl.tl
    have hRB' : RSl w0 (ol 3 oa oc os :: .star LB :: .star LA :: H) qa qc B := hRB.tl
    have hx' : RSl w0 (ol 3 oa oc os :: .star LB :: .star LA :: H) a c es := hx.tl.tl.tl
    have hr' : ∀ e ∈ es, RBy w0 (ol 3 oa oc os :: .star LB :: .star LA :: H) e.ka e.kc e.k := fun e he => (hr e he).tl.tl.tl
    rcases Nat.lt_or_ge i A.length with u1 | u1
    · obtain ⟨x, hxa⟩ := get_lt A i u1
      obtain ⟨x1, x2⟩ := hIA x (List.mem_of_getElem? hxa)
      obtain ⟨xn, rfl⟩ : ∃ n : Nat, x = n := ⟨x.toNat, by omega⟩
      have hex : es[xn]? = some (kvAt es xn) := by have := kvAt_get (es := es) ⟨x1, x2⟩; simpa using this
      have hkx : key xn = (kvAt es xn).k := by rw [hkey]
      have hrx := hr' _ (List.mem_of_getElem? hex)
      generalize kvAt es xn = ex at hex hkx hrx
      rcases Nat.lt_or_ge k B.length with u2 | u2
      · obtain ⟨y, hyb⟩ := get_lt B k u2
        obtain ⟨y1, y2⟩ := hIB y (List.mem_of_getElem? hyb)
        obtain ⟨yn, rfl⟩ : ∃ n : Nat, y = n := ⟨y.toNat, by omega⟩
        have hey : es[yn]? = some (kvAt es yn) := by have := kvAt_get (es := es) ⟨y1, y2⟩; simpa using this
        have hky : key yn = (kvAt es yn).k := by rw [hkey]
        have hry := hr' _ (List.mem_of_getElem? hey)
        generalize kvAt es yn = ey at hey hky hry
        have hml := mrg_left (key := key) hxa hyb
        rw [hkx, hky] at hml
        refine sx ?_
        refine s_rw (t := 34) (v' := .bool true) rfl (congrArg Value.bool (decide_eq_true (by omega))) ?_
        refine sx ?_
        refine s_rw (t := 46) (v' := .bool true) rfl (congrArg Value.bool (by rw [decide_eq_false (by omega)]; rfl)) ?_
        refine sx ?_
        refine s_if rfl (fun _ => ?_) (fun t => absurd (by omega) t)
        refine sx ?_; refine s_dr (.one true 0 (.one true 1 (.one true 2 (.one true 3 (.one true 4 (.one true 5 (.one true 6 (.one true 7 (.one true 8 (.one true 9 (.one true 10 (.one true 11 (.one true 12 (.one true 13 (.one true 14 (.one true 15 (.one false 16 (.one true 17 .nil)))))))))))))))))) mixed (by kernel_rfl) ?_; refine sx ?_
        refine s_callV rfl (qcmp_s (xs := ex.k) (ys := ey.k) (by exact rby) (by exact rby)) ?_
        refine sx ?_
        refine s_if rfl (fun t3 => ?_) (fun t3 => ?_)
        · rw [if_pos t3] at hml
          refine sx ?_
          refine s_bsl [(xn : Int)] rfl rfl fun b77 => ?_
          refine s_app (xs := os) (ys := [(xn : Int)]) ?_ (hby := by simp only [List.length_cons, List.length_nil]; omega)
          intro a4 c4
          refine sx ?_
          refine s_again ⟨i + 1, k, a4, c4, os ++ [(xn : Int)]⟩ ⟨by simp only; omega, g2, by simp only [List.length_append, List.length_cons, List.length_nil]; omega, ?_⟩ (by simp only; omega)
          simp only
          rw [← g4, hml, List.append_assoc]
          rfl
        · rw [if_neg t3] at hml
          refine sx ?_
          refine s_bsl [(yn : Int)] rfl rfl fun b77 => ?_
          refine s_app (xs := os) (ys := [(yn : Int)]) ?_ (hby := by simp only [List.length_cons, List.length_nil]; omega)
          intro a4 c4
          refine sx ?_
          refine s_again ⟨i, k + 1, a4, c4, os ++ [(yn : Int)]⟩ ⟨g1, by simp only; omega, by simp only [List.length_append, List.length_cons, List.length_nil]; omega, ?_⟩ (by simp only; omega)
          simp only
          rw [← g4, hml, List.append_assoc]
          rfl
      · obtain rfl : k = B.length := by omega
        have hstep : mrgL key (A.drop i) (B.drop B.length) = (xn : Int) :: mrgL key (A.drop (i + 1)) (B.drop B.length) := by
          unfold mrgL
          rw [List.drop_length, mrg_nilR, mrg_nilR]
          exact dropG hxa
        refine sx ?_
        refine s_rw (t := 34) (v' := .bool true) rfl (congrArg Value.bool (decide_eq_true (by omega))) ?_
        refine sx ?_
        refine s_bsl [(xn : Int)] rfl rfl fun b77 => ?_
        refine s_app (xs := os) (ys := [(xn : Int)]) ?_ (hby := by simp only [List.length_cons, List.length_nil]; omega)
        intro a4 c4
        refine sx ?_
        refine s_again ⟨i + 1, B.length, a4, c4, os ++ [(xn : Int)]⟩ ⟨by simp only; omega, g2, by simp only [List.length_append, List.length_cons, List.length_nil]; omega, ?_⟩ (by simp only; omega)
        simp only
        rw [← g4, hstep, List.append_assoc]
        rfl
    · obtain rfl : i = A.length := by omega
      rcases Nat.lt_or_ge k B.length with u2 | u2
      · obtain ⟨y, hyb⟩ := get_lt B k u2
        obtain ⟨y1, y2⟩ := hIB y (List.mem_of_getElem? hyb)
        obtain ⟨yn, rfl⟩ : ∃ n : Nat, y = n := ⟨y.toNat, by omega⟩
        have hstep : mrgL key (A.drop A.length) (B.drop k) = (yn : Int) :: mrgL key (A.drop A.length) (B.drop (k + 1)) := by
          unfold mrgL
          rw [List.drop_length, mrg_nilL, mrg_nilL]
          exact dropG hyb
        refine sx ?_
        refine s_rw (t := 34) (v' := .bool false) rfl (congrArg Value.bool (decide_eq_false (by omega))) ?_
        refine sx ?_
        refine s_if rfl (fun _ => ?_) (fun t => absurd (by omega) t)
        refine sx ?_
        refine s_rw (t := 46) (v' := .bool true) rfl (congrArg Value.bool (by rw [decide_eq_false (by omega)]; rfl)) ?_
        refine sx ?_
        refine s_if rfl (fun t => absurd t (by omega)) (fun _ => ?_)
        refine sx ?_
        refine s_if rfl (fun t => absurd t (by omega)) (fun _ => ?_)
        refine sx ?_
        refine s_bsl [(yn : Int)] rfl rfl fun b77 => ?_
        refine s_app (xs := os) (ys := [(yn : Int)]) ?_ (hby := by simp only [List.length_cons, List.length_nil]; omega)
        intro a4 c4
        refine sx ?_
        refine s_again ⟨A.length, k + 1, a4, c4, os ++ [(yn : Int)]⟩ ⟨g1, by simp only; omega, by simp only [List.length_append, List.length_cons, List.length_nil]; omega, ?_⟩ (by simp only; omega)
        simp only
        rw [← g4, hstep, List.append_assoc]
        rfl
      · obtain rfl : k = B.length := by omega
        refine sx ?_
        refine s_rw (t := 34) (v' := .bool false) rfl (congrArg Value.bool (decide_eq_false (by omega))) ?_
        refine sx ?_
        refine s_if rfl (fun t => absurd t (by omega)) (fun _ => ?_)
        refine sx ?_
        have hos : os = mrgL key A B := by
          rw [← g4]
          unfold mrgL
          rw [List.drop_length, List.drop_length, mrg_nilL, List.append_nil]
        refine s_ret1 rfl rfl ⟨oa, oc, os, [ol 3 oa oc os, .star LB, .star LA], rfl, ?_, ?_, rfl, ?_⟩ ?_
        · rw [hos, hkey]
          have hm := mrg_is (g := kvAt es) _ A B (Nat.le_refl _) hMA.up hMB.up
          refine ⟨?_, hm.up⟩
          have h0 : ns.map (kvAt es) = (ns.take m).map (kvAt es) ++ (ns.drop m).map (kvAt es) := by rw [← List.map_append, List.take_append_drop]
          rw [h0]
          exact (hMA.st.app hMB.st).trans hm.st
        · intro x hxm
          rw [hos] at hxm
          rcases mrg_mem _ A B (Nat.le_refl _) hxm with h | h
          · exact hIA x h
          · exact hIB x h
        · exact RSl.ent (H' := ol 3 oa oc os :: .star LB :: .star LA :: H) RSl.hd (Ent.open Ent.refl)
        · exact Ent.star (L := [ol 3 oa oc os, .star LB, .star LA]) (by exact ent)
end Go.Sx

