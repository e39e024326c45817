/- The law OrderCovers, walked. -/
import Derived.Test.YtfhbkhhfcjmnhaaCOY
import Derived.Test.YtfhbkhhfcjmnhaaCOV
import Derived.Test.YtfhbkhhfcjmnhaaCOK
import Derived.Test.YtfhbkhhfcjmnhaaCOCR
namespace Go.Sx
open Go Go.Proofs
set_option maxRecDepth 10000
variable {w0 : World} {H : List Ck}
def sumL (rs : List Rg) : Nat := (rs.map fun r => 1 + r.lo.length + r.hi.length).sum
theorem sumL_step {rs : List Rg} {i : Nat} {r : Rg} (h : rs[i]? = some r) : sumL (rs.take (i + 1)) = sumL (rs.take i) + (1 + r.lo.length + r.hi.length) := by
  rw [snocT h]; simp [sumL]
theorem sumL_len (rs : List Rg) : rs.length ≤ sumL rs := by
  induction rs with
  | nil => exact Nat.zero_le _
  | cons r t ih => simp only [sumL, List.map_cons, List.sum_cons, List.length_cons] at ih ⊢; omega
theorem sumL_mem {rs : List Rg} {r : Rg} (h : r ∈ rs) : r.lo.length + r.hi.length ≤ sumL rs := by
  induction rs with
  | nil => cases h
  | cons a t ih =>
    simp only [sumL, List.map_cons, List.sum_cons] at ih ⊢
    rcases List.mem_cons.1 h with rfl | h
    · omega
    · have := ih h
      omega
/-- A range that is lent, as pieces. -/
@[reducible] def lR1 (r : Rg) : List Ck := [lR r]
theorem RRg.l1 {r : Rg} {F : List Rg} (h : r ∈ F) : RRg w0 (stars lR1 F :: H) r := RRg.ent (H' := [lR r]) lR_rrg (stars_mem h)
def flD (d : T3) : T3 := (d.1.map fl, d.2.1.map fl, d.2.2)
theorem flR_d (r : Rg) : (flR r).d = flD r.d := rfl
theorem flat_flR (xs : List Rg) : flat (xs.map flR) = flat xs := by
  induction xs with
  | nil => rfl
  | cons x r ih =>
    simp only [List.map_cons, flat, List.flatMap_cons] at ih ⊢
    rw [ih]
    simp [Cel.f, Rg.cells]
abbrev bhR (b : Nat) : Rg := ⟨some ⟨b, 0, none⟩, 6, [98, 101, 104, 105, 110, 100], none, 0, [], true⟩
theorem ol_flR {E : TypeId} {a : Option Addr} {c : Nat} (xs : List Rg) (b : Rg) : (ol E a c (xs ++ [b]) : Ck) = ol E a c (xs.map flR ++ [b]) := by
  have h := flat_flR xs
  have h2 : flat (xs.map flR ++ [b]) = flat (xs ++ [b]) := by simp only [flat, List.flatMap_append] at h ⊢; rw [h]
  simp only [ol, h2, List.length_append, List.length_map]
structure CoI where
  oa : Option Addr
  oc : Nat
  xs : List Rg
  va : Option Addr
  vc : Nat
  ys : List Rg
abbrev ll0 : LL := ⟨none, 0, [], none, 0, [], []⟩
abbrev lb0 (k : Nat) : Ob := ⟨k, vn0, vn0, none, 0, [], none, 0, []⟩
theorem lot0_ent {k : Nat} : Ent (.hb k 34 [vn0, vn0, vn0, vn0] :: H) (.star ll0.ps :: (lb0 k).ck :: H) := by
  refine Ent.star ?_
  show Ent _ (ol 23 none 0 ([] : List SRg) :: ol 23 none 0 ([] : List SRg) :: fam 26 ([] : List SRg) :: .star [] :: (lb0 k).ck :: H)
  refine Ent.nilS.trans (Ent.head ?_)
  refine Ent.nilS.trans (Ent.head ?_)
  refine fam_nil.trans (Ent.head ?_)
  refine Ent.star0.trans (Ent.head ?_)
  refine Ent.trans ?_ Ob.shut
  refine Ent.cons (by exact rm) ?_
  refine Ent.nilS.trans (Ent.head ?_)
  refine Ent.nilS.trans (Ent.head ?_)
  exact fam_nil
theorem ll0_ok {k m : Nat} : ll0.Ok (lb0 k) w0 0 m := ⟨rfl, rfl, rfl, Nat.le_refl _, fun s h => (by cases h), fun i s t h => (by cases h), fun s h => (by cases h), fun s h => (by cases h), fun s h => (by cases h)⟩
theorem lb0_ok {k : Nat} : (lb0 k).Ok 0 := ⟨rfl, Nat.le_refl _, fun s h => by cases h⟩
set_option maxHeartbeats 8000000 in
theorem ocovers_s {rs : List Rg} {a : Option Addr} {c : Nat} (hx : RSl w0 H a c rs) (hr : ∀ r ∈ rs, RRg w0 H r) (hb : ∀ r ∈ rs, Lq r) : FnV Try.prog w0 H 4 #[.slice a rs.length c] (.bool true) := by
  refine fns_enter Try.func4 rfl rfl rfl ?_
  refine s_kn (Kn.sl hx) fun l1 => ?_
  simp only [maxLen] at l1
  refine sx ?_
  refine s_callV rfl awake_s ?_
  refine sx ?_
  refine s_loop (fun i : Nat => [(0, .slice a rs.length c), (2, .bool false), (3, .bool true), (4, .int .i64 (sumL (rs.take i) : Nat)), (5, .int .i64 i)]) (fun _ => H) (fun i => i ≤ rs.length ∧ sumL (rs.take i) ≤ 600000000000000) (fun i => rs.length - i) 0 ⟨Nat.zero_le _, Nat.zero_le _⟩ ?_
  rintro i ⟨hi, hs⟩
  refine sx ?_
  have hex : ∀ {P : Prop}, 2147483647 < sumL (rs.take i) → ¬ (2147483647 < ((sumL (rs.take i) : Nat) : Int)) → P := fun h1 h2 => by exfalso; omega
  refine s_lif rfl (fun t1 => ?_) (fun t1 => ?_)
  · refine sx ?_
    refine s_if rfl (fun t2 => ?_) (fun t2 => ?_)
    · obtain ⟨r, hri⟩ := get_lt rs i (by omega)
      have hbr := hb r (List.mem_of_getElem? hri)
      have h6 := sumL_step hri
      refine sx ?_; refine s_dr (.one true 0 (.one true 1 (.one true 2 (.one true 3 (.one true 4 (.one true 5 (.one true 6 (.one true 7 (.one true 8 (.one true 9 (.one true 10 (.one true 11 (.one true 12 (.one true 13 (.one true 14 (.one true 15 (.one true 16 .nil))))))))))))))))) mixed (by kernel_rfl) ?_; refine sx ?_
      exact s_again (i + 1) ⟨by omega, by omega⟩ (by omega)
    · refine sx ?_
      refine s_if rfl (fun t3 => ?_) (fun t3 => by exfalso; omega)
      refine sx ?_
      exact s_ret1 rfl rfl ⟨rfl, rfl⟩
  obtain rfl : i = rs.length := by omega
  clear hex
  rw [List.take_length] at hs ⊢
  refine sx ?_
  refine s_if rfl (fun t2 => ?_) (fun t2 => ?_)
  · refine sx ?_
    exact s_ret1 rfl rfl ⟨rfl, rfl⟩
  have hlen := sumL_len rs
  have hS : sumL rs ≤ 2147483647 := by omega
  have hbm : ∀ r ∈ rs, r.lo.length + r.hi.length ≤ 2147483647 := fun r h => Nat.le_trans (sumL_mem h) hS
  clear t1 t2 hs hi
  refine sx ?_
  refine s_boxA (cs := [vn0, vn0, vn0, vn0]) rfl fun b6 => ?_
  refine sx ?_
  refine s_rw (t := 54) (v' := .int .i64 ((rs.length + 1 : Nat) : Int)) rfl (ci (by omega)) ?_
  refine s_make0 (α := Rg) rfl rfl (by omega) fun b => ?_
  refine sx ?_
  refine s_loop (fun i : CoI => [(0, .slice a rs.length c), (2, .bool false), (3, .bool true), (6, .pointer (some ⟨b6, 0, none⟩)), (7, .slice i.oa i.xs.length i.oc), (8, .slice i.va i.ys.length i.vc), (9, .int .i64 i.xs.length)]) (fun i => ol 26 i.oa i.oc i.xs :: ol 26 i.va i.vc i.ys :: stars lR1 i.xs :: stars lR1 i.ys :: .hb b6 34 [vn0, vn0, vn0, vn0] :: H)
    (fun i => i.xs.length ≤ rs.length ∧ i.ys.length = i.xs.length ∧ i.xs.map Rg.d = (rs.take i.xs.length).map Rg.d ∧ i.ys.map Rg.d = (rs.take i.xs.length).map fun r => flD r.d) (fun i => rs.length - i.xs.length) ⟨some b, rs.length + 1, [], none, 0, []⟩ ⟨Nat.zero_le _, rfl, rfl, rfl⟩ ?_ (he := by
      refine Ent.cons (by exact rm) ?_
      exact Ent.nilS.trans (Ent.head (stars_nil.trans (Ent.head (stars_nil.trans (Ent.head Ent.refl))))))
  rintro ⟨oa, oc, xs, va, vc, ys⟩ ⟨h1, h2, h3, h4⟩
  simp only at h1 h2 h3 h4 ⊢
  refine sx ?_
  refine s_if rfl (fun t1 => ?_) (fun t1 => ?_)
  · have t1 : (xs.length : Int) < (rs.length : Int) := t1
    obtain ⟨r, hri⟩ := get_lt rs xs.length (by omega)
    have hrm := List.mem_of_getElem? hri
    have rr := (hr r hrm).tl (d := .hb b6 34 [vn0, vn0, vn0, vn0]) |>.tl (d := stars lR1 ys) |>.tl (d := stars lR1 xs) |>.tl (d := ol 26 va vc ys) |>.tl (d := ol 26 oa oc xs)
    refine sx ?_
    refine s_call rfl (lentR_s (r := r) (by exact rrg) (hb r hrm)) ?_
    rintro _ _ ⟨x, rfl, hxd, rfl⟩
    refine ⟨chk_seq, ?_⟩
    refine sx ?_
    refine s_bsl [x] rfl rfl fun b68 => ?_
    refine sx ?_
    refine s_app (xs := xs) ?_ (hby := by simp only [List.length_cons, List.length_nil]; omega)
    intro oa2 oc2
    refine sx ?_
    refine s_call rfl (turnedR_s (r := r) ⟨(hr r hrm).lo.tl.tl.tl.tl.tl.tl.tl, (hr r hrm).hi.tl.tl.tl.tl.tl.tl.tl⟩ (hb r hrm)) ?_
    rintro _ _ ⟨y, rfl, hyd, rfl⟩
    refine ⟨chk_seq, ?_⟩
    refine sx ?_
    refine s_bsl [y] rfl rfl fun b76 => ?_
    refine sx ?_
    refine s_app (xs := ys) ?_ (hby := by simp only [List.length_cons, List.length_nil]; omega)
    intro va2 vc2
    refine sx ?_
    refine s_rwQ (t := 9) (v' := .int .i64 ((xs ++ [x]).length : Nat)) rfl (ci (by simp)) ?_
    refine s_again ⟨oa2, oc2, xs ++ [x], va2, vc2, ys ++ [y]⟩ ⟨by simp only [List.length_append, List.length_cons, List.length_nil]; omega, by simp only [List.length_append, List.length_cons, List.length_nil]; omega, ?_, ?_⟩ (by simp only [List.length_append, List.length_cons, List.length_nil]; omega) (he := ?_)
    · simp only [List.length_append, List.length_cons, List.length_nil, List.map_append]
      rw [snocT hri, h3, List.map_append]
      simp [hxd]
    · simp only [List.length_append, List.length_cons, List.length_nil, List.map_append]
      rw [snocT hri, h4, List.map_append]
      simp [hyd, flD]
    · refine Ent.cons (by exact rm) (Ent.cons (by exact rm) ?_)
      exact Ent.trans (H' := lR x :: stars lR1 xs :: lR y :: stars lR1 ys :: .hb b6 34 [vn0, vn0, vn0, vn0] :: H) (by exact entq) (Ent.trans (stars_snoc (f := lR1) (s := x)) (Ent.head (stars_snoc (f := lR1) (s := y))))
  have t1 : ¬ (xs.length : Int) < (rs.length : Int) := t1
  have hxl : xs.length = rs.length := by omega
  rw [hxl, List.take_length] at h3 h4
  clear t1 h1
  refine sx ?_
  refine s_bsl ([98, 101, 104, 105, 110, 100] : Bs) rfl rfl fun b79 => ?_
  refine s_convb rfl (by exact at_) ?_
  refine sx ?_
  refine s_bsl [bhR b79] rfl rfl fun b82 => ?_
  refine sx ?_
  refine s_app (xs := xs) ?_ (hby := by simp only [List.length_cons, List.length_nil]; omega)
  intro oa3 oc3
  refine s_knL (Kn.sl (α := Rg) (a := oa3) (c := oc3) (xs := xs ++ [bhR b79]) (by exact rsl)) fun l3 => ?_
  simp only [maxLen, List.length_append, List.length_cons, List.length_nil] at l3
  refine sx ?_
  refine s_entL (.star ll0.ps :: (lb0 b6).ck :: ol 26 oa3 oc3 (xs ++ [bhR b79]) :: ol 26 va vc ys :: stars lR1 xs :: stars lR1 ys :: .ro b79 (flat ([98, 101, 104, 105, 110, 100] : Bs)) :: H) (Ent.trans (H' := .hb b6 34 [vn0, vn0, vn0, vn0] :: ol 26 oa3 oc3 (xs ++ [bhR b79]) :: ol 26 va vc ys :: stars lR1 xs :: stars lR1 ys :: .ro b79 (flat ([98, 101, 104, 105, 110, 100] : Bs)) :: H) (by exact entq) lot0_ent) ?_
  obtain ⟨HR, hHR⟩ : ∃ HR, HR = ol 26 oa3 oc3 (xs ++ [bhR b79]) :: ol 26 va vc ys :: stars lR1 xs :: stars lR1 ys :: .ro b79 (flat ([98, 101, 104, 105, 110, 100] : Bs)) :: H := ⟨_, rfl⟩
  have rbx : RSl w0 HR oa3 oc3 (xs ++ [bhR b79]) := by rw [hHR]; exact RSl.hd
  have rsx : RSl w0 HR oa3 oc3 xs := by
    have := rbx.take (k := xs.length) (by simp)
    rwa [List.take_left' rfl] at this
  have rrx : ∀ x ∈ xs, RRg w0 HR x := by rw [hHR]; exact fun x h => (RRg.l1 h).tl.tl
  have rsy : RSl w0 HR va vc ys := by rw [hHR]; exact RSl.hd.tl
  have rry : ∀ y ∈ ys, RRg w0 HR y := by rw [hHR]; exact fun y h => (RRg.l1 h).tl.tl.tl
  have rsr : RSl w0 HR a c rs := by rw [hHR]; exact hx.tl.tl.tl.tl.tl
  have rrr : ∀ r ∈ rs, RRg w0 HR r := by rw [hHR]; exact fun r h => (hr r h).tl.tl.tl.tl.tl
  have rbb : RBy w0 HR (some ⟨b79, 0, none⟩) 6 [98, 101, 104, 105, 110, 100] := by rw [hHR]; exact (RBy.ro (xs := [98, 101, 104, 105, 110, 100]) rfl (by decide)).tl.tl.tl.tl
  have hrq : ∀ r ∈ rs, QK 2147483647 r.d := fun r h => by have := hbm r h; exact ⟨by show r.lo.length ≤ _; omega, by show r.hi.length ≤ _; omega⟩
  have hxq : ∀ x ∈ xs, QK 2147483647 x.d := fun x h => by
    have h5 : x.d ∈ rs.map Rg.d := by rw [← h3]; exact List.mem_map.2 ⟨x, h, rfl⟩
    obtain ⟨r, h6, e⟩ := List.mem_map.1 h5
    rw [← e]; exact hrq r h6
  have hyq : ∀ y ∈ ys, QK 2147483647 y.d := fun y h => by
    have h5 : y.d ∈ rs.map fun r => flD r.d := by rw [← h4]; exact List.mem_map.2 ⟨y, h, rfl⟩
    obtain ⟨r, h6, e⟩ := List.mem_map.1 h5
    have h7 := hrq r h6
    rw [← e]
    exact ⟨by simp only [flD, List.length_map]; exact h7.1, by simp only [flD, List.length_map]; exact h7.2⟩
  have lrx : ∀ x ∈ xs, Lr x := fun x h => ⟨Nat.le_trans (hxq x h).1 (by decide), Nat.le_trans (hxq x h).2 (by decide)⟩
  have lrr : ∀ x ∈ rs, Lr x := fun x h => ⟨Nat.le_trans (hrq x h).1 (by decide), Nat.le_trans (hrq x h).2 (by decide)⟩
  have lry : ∀ x ∈ ys, Lr x := fun x h => ⟨Nat.le_trans (hyq x h).1 (by decide), Nat.le_trans (hyq x h).2 (by decide)⟩
  rw [← hHR]
  have g1 := pcoverO_s (w0 := w0) (rs := xs) (a := oa3) (c := oc3) (H := .star ll0.ps :: (lb0 b6).ck :: HR) rsx.tl.tl (by omega) (fun r h => (rrx r h).tl.tl) lrx
  rw [hxl] at g1
  refine s_call rfl g1 ?_
  rintro _ _ ⟨a1, c1, os1, rfl, rfl, n1, v1, q1⟩
  refine ⟨chk_seq, ?_⟩
  refine sx ?_
  have g2 := pcoverO_s (w0 := w0) (rs := xs) (a := oa3) (c := oc3) (H := ol 26 a1 c1 os1 :: stars oRs os1 :: .star ll0.ps :: (lb0 b6).ck :: HR) rsx.tl.tl.tl.tl (by omega) (fun r h => (rrx r h).tl.tl.tl.tl) lrx
  rw [hxl] at g2
  refine s_call rfl g2 ?_
  rintro _ _ ⟨a2, c2, os2, rfl, rfl, n2, v2, q2⟩
  refine ⟨chk_seq, ?_⟩
  refine sx ?_
  refine s_call rfl (coverL_s (rs := rs) rsr.tl.tl.tl.tl.tl.tl (by omega) (fun r h => (rrr r h).tl.tl.tl.tl.tl.tl) lrr) ?_
  rintro _ _ ⟨wa1, wc1, ws1, L1, rfl, rfl, d1, f1, e1⟩
  refine ⟨chk_seq, ?_⟩
  have hcv := ref_cv rs
  have lq : ∀ {os : List Rg}, (∀ k, (∀ r ∈ xs, QK k r.d) → ∀ o ∈ os, QK k o.d) → ∀ o ∈ os, Lq o := fun h o ho => by
    have := h _ hxq o ho
    exact ⟨Nat.le_trans this.1 (by decide), Nat.le_trans this.2 (by decide)⟩
  refine s_call rfl (FnS.ent (list_s (B := lb0 b6) (R := ll0) (cnt := 0) (n := 0) (m := rs.length) (a := a1) (c := c1) (os := os1) (wa := wa1) (wc := wc1) (ws := ws1) (L := L1) (H := ol 26 a2 c2 os2 :: stars oRs os2 :: HR) ll0_ok lb0_ok (by omega) (by omega) (by omega) (by omega) (lq q1) (IsCv.uniq v1 (d1 ▸ hcv) (fun key => by rw [h3])) f1 e1) ?_) ?_
  · refine Ent.trans (H' := ol 26 a1 c1 os1 :: stars oRs os1 :: .star L1 :: .star ll0.ps :: (lb0 b6).ck :: ol 26 a2 c2 os2 :: stars oRs os2 :: HR) (by exact entq) ?_
    exact Ent.head (Ent.head (Ent.head (Ent.open Ent.refl)))
  rintro _ _ ⟨rfl, R1, B1, rfl, k1, o1, ok1⟩
  refine ⟨chk_seq, ?_⟩
  have k1 : B1.k = b6 := k1
  rw [show b6 = B1.k from k1.symm]
  refine s_entL (.star R1.ps :: B1.ck :: ol 26 a2 c2 os2 :: stars oRs os2 :: HR) (Ent.star Ent.refl) ?_
  refine sx ?_
  refine s_call rfl (coverL_s (rs := rs) rsr.tl.tl.tl.tl (by omega) (fun r h => (rrr r h).tl.tl.tl.tl) lrr) ?_
  rintro _ _ ⟨wa2, wc2, ws2, L2, rfl, rfl, d2, f2, e2⟩
  refine ⟨chk_seq, ?_⟩
  refine s_call rfl (FnS.ent (list_s (B := B1) (R := R1) (cnt := 0 + 2 * rs.length) (n := 0 + 1) (m := rs.length) (a := a2) (c := c2) (os := os2) (wa := wa2) (wc := wc2) (ws := ws2) (L := L2) (H := HR) o1 ok1 (by omega) (by omega) (by omega) (by omega) (lq q2) (IsCv.uniq v2 (d2 ▸ hcv) (fun key => by rw [h3])) f2 e2) ?_) ?_
  · refine Ent.trans (H' := ol 26 a2 c2 os2 :: stars oRs os2 :: .star L2 :: .star R1.ps :: B1.ck :: HR) (by exact entq) ?_
    exact Ent.head (Ent.head (Ent.head (Ent.open Ent.refl)))
  rintro _ _ ⟨rfl, R2, B2, rfl, k2, o2, ok2⟩
  refine ⟨chk_seq, ?_⟩
  rw [show B1.k = B2.k from k2.symm]
  refine s_entL (.star R2.ps :: B2.ck :: HR) (Ent.star Ent.refl) ?_
  have hbg : (xs ++ [bhR b79])[rs.length]? = some (bhR b79) := by rw [List.getElem?_append_right (by omega), hxl, Nat.sub_self]; rfl
  refine sx ?_
  refine s_rw (t := 104) (v' := .int .i64 ((rs.length + 1 : Nat) : Int)) rfl (ci (by omega)) ?_
  refine sx ?_
  refine s_knL (RSl.some rbx.tl.tl (by simp)) ?_
  rintro ⟨ad, rfl⟩
  clear rsx rrx g1 g2
  refine sx ?_
  clear rsy rry rsr rrr rbb lrr hbg rbx
  subst hHR
  refine s_loop (fun i : Nat => [(0, .slice a rs.length c), (3, .bool true), (6, .pointer (some ⟨B2.k, 0, none⟩)), (7, .slice (some ad) rs.length oc3), (8, .slice va ys.length vc), (12, .bool true), (13, .bool true), (14, .bool true), (15, .int .i64 i)]) (fun i => .star R2.ps :: B2.ck :: ol 26 (some ad) oc3 (xs ++ [bhR b79]) :: ol 26 va vc ys :: stars lR1 ((xs.map flR).take i) :: stars lR1 (xs.drop i) :: stars lR1 ys :: .ro b79 (flat ([98, 101, 104, 105, 110, 100] : Bs)) :: H)
    (fun i => i ≤ rs.length) (fun i => rs.length - i) 0 (Nat.zero_le _) ?_ (he := by
      rw [List.take_zero, List.drop_zero]
      exact Ent.head (Ent.head (Ent.head (Ent.head stars_nil))))
  intro i hi
  refine sx ?_
  refine s_if rfl (fun t1 => ?_) (fun t1 => ?_)
  · obtain ⟨x, hxi⟩ := get_lt xs i (by omega)
    obtain ⟨r, hri⟩ := get_lt rs i (by omega)
    have hd : x.d = r.d := by
      have g5 := get_map (f := Rg.d) hxi
      rw [h3, get_map (f := Rg.d) hri] at g5
      exact (Option.some.inj g5).symm
    have hall : x.all = r.all := congrArg (fun d => d.2.2) hd
    have hown : (xs ++ [bhR b79])[i]? = some x := by rw [List.getElem?_append_left (by omega)]; exact hxi
    refine s_ent (lR x :: .star R2.ps :: B2.ck :: ol 26 (some ad) oc3 (xs ++ [bhR b79]) :: ol 26 va vc ys :: stars lR1 ((xs.map flR).take i) :: stars lR1 (xs.drop (i + 1)) :: stars lR1 ys :: .ro b79 (flat ([98, 101, 104, 105, 110, 100] : Bs)) :: H) (by
      rw [dropG hxi]
      refine Ent.trans (H' := stars lR1 (x :: xs.drop (i + 1)) :: .star R2.ps :: B2.ck :: ol 26 (some ad) oc3 (xs ++ [bhR b79]) :: ol 26 va vc ys :: stars lR1 ((xs.map flR).take i) :: stars lR1 ys :: .ro b79 (flat ([98, 101, 104, 105, 110, 100] : Bs)) :: H) (by exact entq) ?_
      exact Ent.trans (H' := lR x :: stars lR1 (xs.drop (i + 1)) :: .star R2.ps :: B2.ck :: ol 26 (some ad) oc3 (xs ++ [bhR b79]) :: ol 26 va vc ys :: stars lR1 ((xs.map flR).take i) :: stars lR1 ys :: .ro b79 (flat ([98, 101, 104, 105, 110, 100] : Bs)) :: H) (stars_cons (f := lR1)) (by exact entq)) ?_
    have rl1 : RSl w0 (ol 26 (some ad) oc3 (xs ++ [bhR b79]) :: H) a c rs := hx.tl
    refine sx ?_
    refine s_drH (ol 26 (some ad) oc3 (xs ++ [bhR b79]) :: H) (.one true 0 (.one true 1 (.one true 2 (.one true 3 (.one true 4 (.one true 5 (.one true 6 (.one true 7 (.one false 8 (.one true 9 .nil)))))))))) mixed (by kernel_rfl) ?_
    refine sx ?_
    have hrr := hr r (List.mem_of_getElem? hri)
    refine s_call rfl (keptR_s (x := x) (r := r) ⟨hrr.lo.tl.tl.tl.tl.tl.tl.tl.tl, hrr.hi.tl.tl.tl.tl.tl.tl.tl.tl⟩ hd) ?_
    rintro _ _ ⟨rfl, rfl⟩
    refine ⟨chk_held (by exact entq), ?_⟩
    refine sx ?_
    refine s_drH (ol 26 (some ad) oc3 (xs ++ [bhR b79]) :: H) (.one true 0 (.one true 1 (.one true 2 (.one true 3 (.one true 4 (.one true 5 (.one true 6 (.one true 7 (.one true 8 (.one true 9 (.one true 10 (.one true 11 (.one true 12 (.one true 13 (.one true 14 (.one true 15 (.one true 16 (.one true 17 .nil)))))))))))))))))) mixed (by kernel_rfl) ?_
    refine sx ?_
    refine s_rwQ (t := 14) (v' := .bool true) rfl (by rw [hall]; simp) ?_
    refine s_again (i + 1) (by omega) (by omega) (he := ?_)
    rw [snocT (show (xs.map flR)[i]? = some (flR x) by rw [List.getElem?_map, hxi]; rfl)]
    refine Ent.trans (H' := lR (flR x) :: stars lR1 ((xs.map flR).take i) :: .star R2.ps :: B2.ck :: ol 26 (some ad) oc3 (xs ++ [bhR b79]) :: ol 26 va vc ys :: stars lR1 (xs.drop (i + 1)) :: stars lR1 ys :: .ro b79 (flat ([98, 101, 104, 105, 110, 100] : Bs)) :: H) (by exact entq) ?_
    exact Ent.trans (H' := stars lR1 ((xs.map flR).take i ++ [flR x]) :: .star R2.ps :: B2.ck :: ol 26 (some ad) oc3 (xs ++ [bhR b79]) :: ol 26 va vc ys :: stars lR1 (xs.drop (i + 1)) :: stars lR1 ys :: .ro b79 (flat ([98, 101, 104, 105, 110, 100] : Bs)) :: H) (stars_snoc (f := lR1) (s := flR x)) (by exact entq)
  obtain rfl : i = rs.length := by omega
  clear t1 hi hcv d1 f1 e1 d2 f2 e2 lq v1 v2 q1 q2
  rw [List.take_of_length_le (by rw [List.length_map]; omega), List.drop_of_length_le (by omega), ol_flR]
  refine s_ent (.star R2.ps :: B2.ck :: ol 26 (some ad) oc3 (xs.map flR ++ [bhR b79]) :: ol 26 va vc ys :: stars lR1 (xs.map flR) :: stars lR1 ys :: .ro b79 (flat ([98, 101, 104, 105, 110, 100] : Bs)) :: H) (by exact entq) ?_
  obtain ⟨HR, hHR⟩ : ∃ HR, HR = ol 26 (some ad) oc3 (xs.map flR ++ [bhR b79]) :: ol 26 va vc ys :: stars lR1 (xs.map flR) :: stars lR1 ys :: .ro b79 (flat ([98, 101, 104, 105, 110, 100] : Bs)) :: H := ⟨_, rfl⟩
  have rsx : RSl w0 HR (some ad) oc3 (xs.map flR) := by
    have := (RSl.hd : RSl w0 (ol 26 (some ad) oc3 (xs.map flR ++ [bhR b79]) :: ol 26 va vc ys :: stars lR1 (xs.map flR) :: stars lR1 ys :: .ro b79 (flat ([98, 101, 104, 105, 110, 100] : Bs)) :: H) (some ad) oc3 (xs.map flR ++ [bhR b79])).take (k := (xs.map flR).length) (by simp)
    rw [List.take_left' rfl] at this
    rw [hHR]; exact this
  have rrx : ∀ x ∈ xs.map flR, RRg w0 HR x := by rw [hHR]; exact fun x h => (RRg.l1 h).tl.tl
  have rsy : RSl w0 HR va vc ys := by rw [hHR]; exact RSl.hd.tl
  have rry : ∀ y ∈ ys, RRg w0 HR y := by rw [hHR]; exact fun y h => (RRg.l1 h).tl.tl.tl
  have hE : Ent HR H := by rw [hHR]; exact Ent.tl (Ent.tl (Ent.tl (Ent.tl (Ent.tl Ent.refl))))
  rw [← hHR]
  clear hHR
  have hdd : (xs.map flR).map Rg.d = ys.map Rg.d := by
    rw [h4, List.map_map, show (Rg.d ∘ flR) = (flD ∘ Rg.d) from funext fun x => flR_d x, ← List.map_map, h3, List.map_map]
    rfl
  have hfq : ∀ x ∈ xs.map flR, QK 2147483647 x.d := fun x h => by
    have h5 : x.d ∈ ys.map Rg.d := by rw [← hdd]; exact List.mem_map.2 ⟨x, h, rfl⟩
    obtain ⟨y, h6, e⟩ := List.mem_map.1 h5
    rw [← e]; exact hyq y h6
  have lrf : ∀ x ∈ xs.map flR, Lr x := fun x h => ⟨Nat.le_trans (hfq x h).1 (by decide), Nat.le_trans (hfq x h).2 (by decide)⟩
  have g3 := pcoverO_s (w0 := w0) (rs := xs.map flR) (a := some ad) (c := oc3) (H := .star R2.ps :: B2.ck :: HR) rsx.tl.tl (by rw [List.length_map]; omega) (fun r h => (rrx r h).tl.tl) lrf
  rw [List.length_map, hxl] at g3
  refine sx ?_
  refine s_call rfl g3 ?_
  rintro _ _ ⟨a3, c3, os3, rfl, rfl, n3, v3, q3⟩
  refine ⟨chk_seq, ?_⟩
  refine sx ?_
  refine s_call rfl (coverL_s (rs := ys) rsy.tl.tl.tl.tl (by omega) (fun r h => (rry r h).tl.tl.tl.tl) lry) ?_
  rintro _ _ ⟨wa3, wc3, ws3, L3, rfl, rfl, d3, f3, e3⟩
  refine ⟨chk_seq, ?_⟩
  have lq3 : ∀ o ∈ os3, Lq o := fun o ho => by
    have := q3 _ hfq o ho
    exact ⟨Nat.le_trans this.1 (by decide), Nat.le_trans this.2 (by decide)⟩
  refine s_call rfl (FnS.ent (list_s (B := B2) (R := R2) (cnt := 0 + 2 * rs.length + 2 * rs.length) (n := 0 + 1 + 1) (m := rs.length) (a := a3) (c := c3) (os := os3) (wa := wa3) (wc := wc3) (ws := ws3) (L := L3) (H := HR) o2 ok2 (by omega) (by omega) (by omega) (by omega) lq3 (IsCv.uniq v3 (d3 ▸ ref_cv ys) (fun key => by rw [hdd])) f3 e3) ?_) ?_
  · refine Ent.trans (H' := ol 26 a3 c3 os3 :: stars oRs os3 :: .star L3 :: .star R2.ps :: B2.ck :: HR) (by exact entq) ?_
    exact Ent.head (Ent.head (Ent.head (Ent.open Ent.refl)))
  rintro _ _ ⟨rfl, R3, B3, rfl, k3, o3, ok3⟩
  refine ⟨chk_seq, ?_⟩
  rw [show B2.k = B3.k from k3.symm]
  refine sx ?_
  refine s_call rfl (lends_s (B := B3) (R := R3) (H := HR) o3 ok3 (by omega) (by omega) (by omega)) ?_
  rintro _ _ ⟨rfl, rfl⟩
  refine ⟨chk_seq, ?_⟩
  refine sx ?_
  exact s_ret1 rfl rfl ⟨rfl, rfl⟩ hE
end Go.Sx
