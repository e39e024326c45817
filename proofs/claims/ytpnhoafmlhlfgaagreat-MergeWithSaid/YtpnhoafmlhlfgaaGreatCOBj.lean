/- Part of a proof: several parts of a walk, one behind the other. -/
import Derived.Test.YtpnhoafmlhlfgaaGreatCZPj
import Derived.Test.YtpnhoafmlhlfgaaGreatCQ1
import Derived.Test.YtpnhoafmlhlfgaaGreatCGAj
import Derived.Test.YtpnhoafmlhlfgaaGreatCQCj
import Derived.Test.YtpnhoafmlhlfgaaGreatCH1j
namespace Go.Sx
open Go Go.Proofs
set_option maxRecDepth 10000
variable {w0 : World} {H : List Ck}
def kvAt (es : List KV) (i : Int) : KV := es.getD i.toNat ⟨none, 0, [], none, 0, []⟩
def InE (es : List KV) (ns : List Int) : Prop := ∀ n ∈ ns, 0 ≤ n ∧ n < es.length
theorem kvAt_get {es : List KV} {n : Int} (h : 0 ≤ n ∧ n < es.length) : es[n.toNat]? = some (kvAt es n) := by
  unfold kvAt
  rw [List.getD_eq_getElem?_getD, List.getElem?_eq_getElem (by omega)]
  rfl
structure SbI where
  i : Nat
  k : Nat
  a : Option Addr
  c : Nat
  os : List Int
abbrev StbR (w0 : World) (es : List KV) (ns : List Int) (H : List Ck) : Value → List Ck → Prop := fun v H' => ∃ a c ms L, v = .slice a (ms : List Int).length c ∧ Mrg (ns.map (kvAt es)) (ms.map (kvAt es)) ∧ InE es ms ∧ H' = .star L :: H ∧ RSl w0 H' a c ms
set_option maxHeartbeats 4000000 in
theorem rstable_s {a : Option Addr} {c : Nat} {es : List KV} (_hl : es.length ≤ 549755813888) : ∀ (n : Nat) {H : List Ck} {b : Option Addr} {d : Nat} {ns : List Int}, RSl w0 H a c es → (∀ e ∈ es, RBy w0 H e.ka e.kc e.k) → RSl w0 H b d ns → InE es ns → ns.length ≤ n → ns.length ≤ 549755813888 →
    FnS Tryz.prog w0 H 26 #[.slice a es.length c, .slice b ns.length d] (StbR w0 es ns H) := by
  intro n
  induction n with
  | zero =>
    intro H b d ns hx hr hy hi hn hm
    obtain rfl : ns = [] := List.eq_nil_of_length_eq_zero (by omega)
    refine fns_enter Tryz.func26 rfl rfl rfl ?_
    refine sx ?_
    exact s_ret1 rfl rfl ⟨b, d, [], [], rfl, ⟨Stb.refl _, Asc.nil⟩, hi, rfl, hy.tl⟩ Ent.star0
  | succ n ih =>
    intro H b d ns hx hr hy hi hn hm
    refine fns_enter Tryz.func26 rfl rfl rfl ?_
    refine s_kn (Kn.sl hy) fun ⟨l1, l2⟩ => ?_
    simp only [maxLen] at l2
    refine sx ?_
    refine s_if rfl (fun t1 => ?_) (fun t1 => ?_)
    · refine sx ?_
      refine s_ret1 rfl rfl ⟨b, d, ns, [], rfl, ⟨Stb.refl _, ?_⟩, hi, rfl, hy.tl⟩ Ent.star0
      rcases ns with _ | ⟨x, _ | ⟨y, r⟩⟩
      · exact Asc.nil
      · exact Asc.one _
      · simp only [List.length_cons] at t1; omega
    refine sx ?_
    obtain ⟨m, hm2⟩ : ∃ m, m = ns.length / 2 := ⟨_, rfl⟩
    refine s_rw (t := 20) (v' := .int .i64 (m : Int)) rfl (by rw [hm2]; norm_cast) ?_
    refine s_yS rfl rfl rfl (y_slT (k := m) rfl rfl (by omega)) ?_
    have hi1 : InE es (ns.take m) := fun x h => hi x (List.mem_of_mem_take h)
    have hi2 : InE es (ns.drop m) := fun x h => hi x (List.mem_of_mem_drop h)
    have hlt : (ns.take m).length = m := by rw [List.length_take]; omega
    have hld : (ns.drop m).length = ns.length - m := List.length_drop
    have c1 := ih hx hr (hy.take (k := m) (by omega)) hi1 (by omega) (by omega)
    rw [hlt] at c1
    refine sx ?_
    refine s_call rfl c1 ?_
    rintro _ _ ⟨pa, pc, A, LA, rfl, hMA, hIA, rfl, hRA⟩
    refine ⟨chk_seq, ?_⟩
    refine sx ?_
    refine s_rw (t := 27) (v' := .int .i64 (m : Int)) rfl (by rw [hm2]; norm_cast) ?_
    refine s_yS rfl rfl rfl (y_slF (k := m) rfl rfl (by omega)) ?_
    have c2 := ih (H := .star LA :: H) hx.tl (fun e he => (hr e he).tl) ((hy.drop (j := m) (by omega)).tl) hi2 (by omega) (by omega)
    rw [hld] at c2
    refine sx ?_
    refine s_call rfl c2 ?_
    rintro _ _ ⟨qa, qc, B, LB, rfl, hMB, hIB, rfl, hRB⟩
    refine ⟨chk_seq, ?_⟩
    have hlA : A.length = m := by have := hMA.st.len; simp only [List.length_map] at this; omega
    have hlB : B.length = ns.length - m := by have := hMB.st.len; simp only [List.length_map] at this; omega
    obtain ⟨key, hkey⟩ : ∃ key : Int → Bs, key = fun i => (kvAt es i).k := ⟨_, rfl⟩
    refine sx ?_
    refine s_loop (fun q : SbI => [(0, .slice a es.length c), (5, .slice pa A.length pc), (6, .slice qa B.length qc), (7, .slice q.a q.os.length q.c), (8, .int .i64 q.i), (9, .int .i64 q.k)]) (fun q => ol 3 q.a q.c q.os :: .star LB :: .star LA :: H) (fun q => q.i ≤ A.length ∧ q.k ≤ B.length ∧ q.os.length = q.i + q.k ∧ q.os ++ mrgL key (A.drop q.i) (B.drop q.k) = mrgL key A B) (fun q => (A.length - q.i) + (B.length - q.k)) ⟨0, 0, none, 0, []⟩ ⟨Nat.zero_le _, Nat.zero_le _, rfl, by simp⟩ ?_ (he := Ent.nilS)
    rintro ⟨i, k, oa, oc, os⟩ ⟨g1, g2, g3, g4⟩
    simp only at g1 g2 g3 g4 ⊢
    have hRA' : RSl w0 (ol 3 oa oc os :: .star LB :: .star LA :: H) pa pc A := hRA.tl.tl
    have hRB' : RSl w0 (ol 3 oa oc os :: .star LB :: .star LA :: H) qa qc B := hRB.tl
    have hx' : RSl w0 (ol 3 oa oc os :: .star LB :: .star LA :: H) a c es := hx.tl.tl.tl
    have hr' : ∀ e ∈ es, RBy w0 (ol 3 oa oc os :: .star LB :: .star LA :: H) e.ka e.kc e.k := fun e he => (hr e he).tl.tl.tl
    rcases Nat.lt_or_ge i A.length with u1 | u1
    · obtain ⟨x, hxa⟩ := get_lt A i u1
      obtain ⟨x1, x2⟩ := hIA x (List.mem_of_getElem? hxa)
      obtain ⟨xn, rfl⟩ : ∃ n : Nat, x = n := ⟨x.toNat, by omega⟩
      have hex : es[xn]? = some (kvAt es xn) := by have := kvAt_get (es := es) ⟨x1, x2⟩; simpa using this
      have hkx : key xn = (kvAt es xn).k := by rw [hkey]
      have hrx := hr' _ (List.mem_of_getElem? hex)
      generalize kvAt es xn = ex at hex hkx hrx
      rcases Nat.lt_or_ge k B.length with u2 | u2
      · obtain ⟨y, hyb⟩ := get_lt B k u2
        obtain ⟨y1, y2⟩ := hIB y (List.mem_of_getElem? hyb)
        obtain ⟨yn, rfl⟩ : ∃ n : Nat, y = n := ⟨y.toNat, by omega⟩
        have hey : es[yn]? = some (kvAt es yn) := by have := kvAt_get (es := es) ⟨y1, y2⟩; simpa using this
        have hky : key yn = (kvAt es yn).k := by rw [hkey]
        have hry := hr' _ (List.mem_of_getElem? hey)
        generalize kvAt es yn = ey at hey hky hry
        have hml := mrg_left (key := key) hxa hyb
        rw [hkx, hky] at hml
        refine sx ?_
        refine s_rw (t := 34) (v' := .bool true) rfl (congrArg Value.bool (decide_eq_true (by omega))) ?_
        refine sx ?_
        refine s_rw (t := 46) (v' := .bool true) rfl (congrArg Value.bool (by rw [decide_eq_false (by omega)]; rfl)) ?_
        refine sx ?_
        refine s_if rfl (fun _ => ?_) (fun t => absurd (by omega) t)
        refine sx ?_; refine s_dr (.one true 0 (.one true 1 (.one true 2 (.one true 3 (.one true 4 (.one true 5 (.one true 6 (.one true 7 (.one true 8 (.one true 9 (.one true 10 (.one true 11 (.one true 12 (.one true 13 (.one true 14 (.one true 15 (.one false 16 (.one true 17 .nil)))))))))))))))))) mixed (by kernel_rfl) ?_; refine sx ?_
        refine s_callV rfl (qcmp_s (xs := ex.k) (ys := ey.k) (by exact rby) (by exact rby)) ?_
        refine sx ?_
        refine s_if rfl (fun t3 => ?_) (fun t3 => ?_)
        · rw [if_pos t3] at hml
          refine sx ?_
          refine s_bsl [(xn : Int)] rfl rfl fun b77 => ?_
          refine s_app (xs := os) (ys := [(xn : Int)]) ?_ (hby := by simp only [List.length_cons, List.length_nil]; omega)
          intro a4 c4
          refine sx ?_
          refine s_again ⟨i + 1, k, a4, c4, os ++ [(xn : Int)]⟩ ⟨by simp only; omega, g2, by simp only [List.length_append, List.length_cons, List.length_nil]; omega, ?_⟩ (by simp only; omega)
          simp only
          rw [← g4, hml, List.append_assoc]
          rfl
        · rw [if_neg t3] at hml
          refine sx ?_
          refine s_bsl [(yn : Int)] rfl rfl fun b77 => ?_
          refine s_app (xs := os) (ys := [(yn : Int)]) ?_ (hby := by simp only [List.length_cons, List.length_nil]; omega)
          intro a4 c4
          refine sx ?_
          refine s_again ⟨i, k + 1, a4, c4, os ++ [(yn : Int)]⟩ ⟨g1, by simp only; omega, by simp only [List.length_append, List.length_cons, List.length_nil]; omega, ?_⟩ (by simp only; omega)
          simp only
          rw [← g4, hml, List.append_assoc]
          rfl
      · obtain rfl : k = B.length := by omega
        have hstep : mrgL key (A.drop i) (B.drop B.length) = (xn : Int) :: mrgL key (A.drop (i + 1)) (B.drop B.length) := by
          unfold mrgL
          rw [List.drop_length, mrg_nilR, mrg_nilR]
          exact dropG hxa
        refine sx ?_
        refine s_rw (t := 34) (v' := .bool true) rfl (congrArg Value.bool (decide_eq_true (by omega))) ?_
        refine sx ?_
        refine s_bsl [(xn : Int)] rfl rfl fun b77 => ?_
        refine s_app (xs := os) (ys := [(xn : Int)]) ?_ (hby := by simp only [List.length_cons, List.length_nil]; omega)
        intro a4 c4
        refine sx ?_
        refine s_again ⟨i + 1, B.length, a4, c4, os ++ [(xn : Int)]⟩ ⟨by simp only; omega, g2, by simp only [List.length_append, List.length_cons, List.length_nil]; omega, ?_⟩ (by simp only; omega)
        simp only
        rw [← g4, hstep, List.append_assoc]
        rfl
    · obtain rfl : i = A.length := by omega
      rcases Nat.lt_or_ge k B.length with u2 | u2
      · obtain ⟨y, hyb⟩ := get_lt B k u2
        obtain ⟨y1, y2⟩ := hIB y (List.mem_of_getElem? hyb)
        obtain ⟨yn, rfl⟩ : ∃ n : Nat, y = n := ⟨y.toNat, by omega⟩
        have hstep : mrgL key (A.drop A.length) (B.drop k) = (yn : Int) :: mrgL key (A.drop A.length) (B.drop (k + 1)) := by
          unfold mrgL
          rw [List.drop_length, mrg_nilL, mrg_nilL]
          exact dropG hyb
        refine sx ?_
        refine s_rw (t := 34) (v' := .bool false) rfl (congrArg Value.bool (decide_eq_false (by omega))) ?_
        refine sx ?_
        refine s_if rfl (fun _ => ?_) (fun t => absurd (by omega) t)
        refine sx ?_
        refine s_rw (t := 46) (v' := .bool true) rfl (congrArg Value.bool (by rw [decide_eq_false (by omega)]; rfl)) ?_
        refine sx ?_
        refine s_if rfl (fun t => absurd t (by omega)) (fun _ => ?_)
        refine sx ?_
        refine s_if rfl (fun t => absurd t (by omega)) (fun _ => ?_)
        refine sx ?_
        refine s_bsl [(yn : Int)] rfl rfl fun b77 => ?_
        refine s_app (xs := os) (ys := [(yn : Int)]) ?_ (hby := by simp only [List.length_cons, List.length_nil]; omega)
        intro a4 c4
        refine sx ?_
        refine s_again ⟨A.length, k + 1, a4, c4, os ++ [(yn : Int)]⟩ ⟨g1, by simp only; omega, by simp only [List.length_append, List.length_cons, List.length_nil]; omega, ?_⟩ (by simp only; omega)
        simp only
        rw [← g4, hstep, List.append_assoc]
        rfl
      · obtain rfl : k = B.length := by omega
        refine sx ?_
        refine s_rw (t := 34) (v' := .bool false) rfl (congrArg Value.bool (decide_eq_false (by omega))) ?_
        refine sx ?_
        refine s_if rfl (fun t => absurd t (by omega)) (fun _ => ?_)
        refine sx ?_
        have hos : os = mrgL key A B := by
          rw [← g4]
          unfold mrgL
          rw [List.drop_length, List.drop_length, mrg_nilL, List.append_nil]
        refine s_ret1 rfl rfl ⟨oa, oc, os, [ol 3 oa oc os, .star LB, .star LA], rfl, ?_, ?_, rfl, ?_⟩ ?_
        · rw [hos, hkey]
          have hm := mrg_is (g := kvAt es) _ A B (Nat.le_refl _) hMA.up hMB.up
          refine ⟨?_, hm.up⟩
          have h0 : ns.map (kvAt es) = (ns.take m).map (kvAt es) ++ (ns.drop m).map (kvAt es) := by rw [← List.map_append, List.take_append_drop]
          rw [h0]
          exact (hMA.st.app hMB.st).trans hm.st
        · intro x hxm
          rw [hos] at hxm
          rcases mrg_mem _ A B (Nat.le_refl _) hxm with h | h
          · exact hIA x h
          · exact hIB x h
        · exact RSl.ent (H' := ol 3 oa oc os :: .star LB :: .star LA :: H) RSl.hd (Ent.open Ent.refl)
        · exact Ent.star (L := [ol 3 oa oc os, .star LB, .star LA]) (by exact ent)
end Go.Sx
namespace Go.Sx
open Go Go.Proofs
set_option maxRecDepth 10000
variable {w0 : World} {H : List Ck}
theorem onext_s {a : Option Addr} {c : Nat} {xs : Bs} (ha : RBy w0 H a c xs) (hx : xs.length ≤ 140737488355327) : FnS Tryz.prog w0 H 157 #[.slice a xs.length c] (fun v H' => ∃ a' c', v = .slice a' (xs ++ [0]).length c' ∧ H' = ob a' c' (xs ++ [0]) :: H) := by
  refine fns_enter Tryz.func157 rfl rfl rfl ?_
  refine sx ?_
  refine s_rw (t := 6) (v' := .int .i64 ((xs.length + 1 : Nat) : Int)) rfl (ci (by omega)) ?_
  refine s_make rfl rfl (by omega) fun b => ?_
  refine sx ?_
  refine s_copy rfl rfl ?_ (ys := xs) (hk0 := by simp)
  have e : xs.take (List.replicate (xs.length + 1) (0 : UInt8)).length ++ (List.replicate (xs.length + 1) (0 : UInt8)).drop xs.length = xs ++ [0] := by
    rw [List.length_replicate, List.take_of_length_le (by omega), List.drop_replicate, show xs.length + 1 - xs.length = 1 by omega]
    rfl
  rw [e]
  refine sx ?_
  exact s_ret1 rfl rfl ⟨some b, xs.length + 1, by simp, rfl⟩
theorem qnext_s {a : Option Addr} {c : Nat} {xs : Bs} (ha : RBy w0 H a c xs) (hx : xs.length ≤ 140737488355327) : FnS Tryz.prog w0 H 133 #[.slice a xs.length c] (fun v H' => ∃ a' c', v = .slice a' (xs ++ [0]).length c' ∧ H' = ob a' c' (xs ++ [0]) :: H) := by
  refine fns_enter Tryz.func133 rfl rfl rfl ?_
  refine sx ?_
  refine s_rw (t := 6) (v' := .int .i64 ((xs.length + 1 : Nat) : Int)) rfl (ci (by omega)) ?_
  refine s_make rfl rfl (by omega) fun b => ?_
  refine sx ?_
  refine s_copy rfl rfl ?_ (ys := xs) (hk0 := by simp)
  have e : xs.take (List.replicate (xs.length + 1) (0 : UInt8)).length ++ (List.replicate (xs.length + 1) (0 : UInt8)).drop xs.length = xs ++ [0] := by
    rw [List.length_replicate, List.take_of_length_le (by omega), List.drop_replicate, show xs.length + 1 - xs.length = 1 by omega]
    rfl
  rw [e]
  refine sx ?_
  exact s_ret1 rfl rfl ⟨some b, xs.length + 1, by simp, rfl⟩
/-- What is told of two keys: what is between them. -/
def betK (a b : Bs) : Bs := if cmp a b < 0 then btw a b else []
def betE (a b : Bs) : Int := if cmp a b < 0 then 0 else 41
end Go.Sx
namespace Go.Sx
open Go Go.Proofs
set_option maxRecDepth 10000
variable {w0 : World} {H : List Ck}
abbrev Lr (r : Rg) : Prop := r.lo.length ≤ 140737488355328 ∧ r.hi.length ≤ 140737488355328
theorem ohas_s {r : Rg} {a : Option Addr} {c : Nat} {key : Bs} (hr : RRg w0 H r) (ha : RBy w0 H a c key) : FnV Tryz.prog w0 H 80 #[.agg r.cells.toArray, .slice a key.length c] (.bool (hasB r.d key)) := by
  have h1 := hr.lo
  have h2 := hr.hi
  obtain ⟨la, lc, lo, ha', hc, hi, all⟩ := r
  refine fns_enter Tryz.func80 rfl rfl rfl ?_
  refine sx ?_
  refine s_boxA rfl fun b => ?_
  refine sx ?_
  refine s_callV rfl (compare_s (xs := key) (ys := lo) (by exact rby) (by exact rby)) ?_
  refine sx ?_
  refine s_lif rfl (fun t1 => ?_) (fun t1 => ?_)
  · cases all
    · refine sx ?_
      refine s_callV rfl (compare_s (xs := key) (ys := hi) (by exact rby) (by exact rby)) ?_
      refine sx ?_
      exact s_ret1 rfl rfl ⟨by simp [hasB]; omega, rfl⟩
    · refine sx ?_
      exact s_ret1 rfl rfl ⟨by simp [hasB]; omega, rfl⟩
  · refine sx ?_
    exact s_ret1 rfl rfl ⟨by simp [hasB]; omega, rfl⟩
theorem qsame_s {a a' : Option Addr} {c c' : Nat} {xs ys : Bs} (ha : RBy w0 H a c xs) (hb : RBy w0 H a' c' ys) : FnV Tryz.prog w0 H 28 #[.slice a xs.length c, .slice a' ys.length c'] (.bool (decide (xs = ys))) := by
  refine fns_enter Tryz.func28 rfl rfl rfl ?_
  refine sx ?_
  refine s_callV rfl (qcmp_s ha hb) ?_
  refine sx ?_
  exact s_ret1 rfl rfl ⟨by rw [decide_eq_decide.2 (cmp_eq xs ys)], rfl⟩
theorem ominus_s {r q : Rg} (hr : RRg w0 H r) (hq : RRg w0 H q) (hl : Lr r) (hl' : Lr q) : FnS Tryz.prog w0 H 90 #[.agg r.cells.toArray, .agg q.cells.toArray]
    (fun v H' => ∃ x y : Rg, v = .tuple #[.agg x.cells.toArray, .agg y.cells.toArray] ∧ x.d = (miR r.d q.d).1 ∧ y.d = (miR r.d q.d).2 ∧ H' = oR x :: oR y :: H) := by
  have h3 := hq.lo
  have h4 := hq.hi
  have hq' := hq
  obtain ⟨la, lc, lo, ha, hc, hi, all⟩ := q
  simp only at h3 h4
  refine fns_enter Tryz.func90 rfl rfl rfl ?_
  refine sx ?_
  refine s_boxA rfl fun b2 => ?_
  refine sx ?_
  refine s_boxA rfl fun b3 => ?_
  refine sx ?_
  refine s_alloc fun b4 => ?_
  refine sx ?_
  refine s_alloc fun b5 => ?_
  refine sx ?_
  refine s_callV rfl (oempty_s (r := ⟨la, lc, lo, ha, hc, hi, all⟩) (by exact rrg)) ?_
  refine sx ?_
  refine s_cond rfl (fun t1 => ?_) (fun t1 => ?_)
  · refine sx ?_
    refine s_call rfl (oform_s (r := r) (by exact rrg) hl) ?_
    rintro _ _ ⟨x, rfl, hx, rfl⟩
    refine ⟨chk_seq, ?_⟩
    refine sx ?_
    refine s_retcc (vs := x.cells) (vs' := rg0.cells) rfl rfl rfl (by exact at_) rfl (by exact at_) rfl ⟨x, rg0, rfl, ?_, ?_, rfl⟩ ?_
    · rw [hx, miR, if_pos t1]
    · rw [miR, if_pos t1]
    · refine Ent.trans (H' := oR x :: H) (by exact ent) ?_
      exact Ent.head hnilR
  refine sx ?_
  refine s_call rfl (omeet_s (r := r) (q := ⟨none, 0, [], la, lc, lo, false⟩) (by exact rrg) ⟨RBy.nil, by exact rby⟩ hl ⟨Nat.zero_le _, hl'.1⟩) ?_
  rintro _ _ ⟨x, rfl, hx, rfl⟩
  refine ⟨chk_seq, ?_⟩
  refine sx ?_
  refine s_alloc fun b6 => ?_
  refine sx ?_
  cases all
  · refine sx ?_
    refine sx ?_; refine s_drH (oR x :: .hb b6 57 x.cells :: .hb b3 57 (Rg.cells ⟨la, lc, lo, ha, hc, hi, false⟩) :: .hb b2 57 r.cells :: H) (.one true 0 (.one true 1 (.one true 2 (.one true 3 (.one true 4 (.one false 5 (.one false 6 (.one false 7 .nil)))))))) mixed (by kernel_rfl) ?_; refine sx ?_
    refine s_call rfl (omeet_s (r := r) (q := ⟨ha, hc, hi, none, 0, [], true⟩) (by exact rrg) ⟨by exact rby, RBy.nil⟩ hl ⟨hl'.2, Nat.zero_le _⟩) ?_
    rintro _ _ ⟨y, rfl, hy, rfl⟩
    refine ⟨chk_held (by exact ent), ?_⟩
    refine sx ?_
    refine s_retcc (vs := x.cells) (vs' := y.cells) rfl rfl rfl (by exact at_) rfl (by exact at_) rfl ⟨x, y, rfl, ?_, ?_, rfl⟩ (by exact ent)
    · rw [hx, miR, if_neg (by rw [t1]; decide)]
    · rw [hy, miR, if_neg (by rw [t1]; decide)]; rfl
  · refine sx ?_
    refine s_retcc (vs := x.cells) (vs' := rg0.cells) rfl rfl rfl (by exact at_) rfl (by exact at_) rfl ⟨x, rg0, rfl, ?_, ?_, rfl⟩ ?_
    · rw [hx, miR, if_neg (by rw [t1]; decide)]
    · rw [miR, if_neg (by rw [t1]; decide)]; rfl
    · refine Ent.trans (H' := oR x :: H) (by exact ent) ?_
      exact Ent.head hnilR
end Go.Sx
