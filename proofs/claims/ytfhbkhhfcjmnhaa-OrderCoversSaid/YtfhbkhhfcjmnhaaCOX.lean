/- Part of a proof: lists of ranges that came out are kept. -/
import Derived.Test.YtfhbkhhfcjmnhaaCOT
import Derived.Test.YtfhbkhhfcjmnhaaCOW
namespace Go.Sx
open Go Go.Proofs
set_option maxRecDepth 10000
variable {w0 : World} {H : List Ck}
/-- What a range that is kept leaves. -/
abbrev LotR (B : Ob) (n : Nat) (r : Rg) (H : List Ck) : Value → List Ck → Prop := fun v H' => v = .bool true ∧ ∃ B' : Ob, H' = B'.ck :: H ∧ B'.k = B.k ∧ B'.p = B.p ∧ B'.q = B.q ∧ B'.Ok n ∧ (∀ t ∈ B.ls, t ∈ B'.ls) ∧ (⟨r.la, r.lc, r.lo⟩ : SB) ∈ B'.ls ∧ (⟨r.ha, r.hc, r.hi⟩ : SB) ∈ B'.ls
theorem rangeL_s {B : Ob} {n : Nat} {r q : Rg} (hB : B.Ok n) (hn : n ≤ 1000000000000) (hq : RRg w0 H q) (he : r.d = q.d) (hl : Lq r) :
    FnS Try.prog w0 (ob r.la r.lc r.lo :: ob r.ha r.hc r.hi :: B.ck :: H) 41 #[.pointer (some ⟨B.k, 0, none⟩), .agg r.cells.toArray, .agg q.cells.toArray] (LotR B (n + 2) r H) := by
  have h3 := hq.lo
  have h4 := hq.hi
  obtain ⟨la, lc, lo, ha, hc, hi, all⟩ := r
  obtain ⟨qa, qc, qlo, qha, qhc, qhi, qall⟩ := q
  simp only [Rg.d, Prod.mk.injEq] at he
  obtain ⟨rfl, rfl, rfl⟩ := he
  simp only at h3 h4 hl
  obtain ⟨hl1, hl2⟩ := hl
  simp only at hl1 hl2
  refine fns_enter Try.func41 rfl rfl rfl ?_
  refine sx ?_
  refine s_boxA rfl fun b4 => ?_
  refine sx ?_
  refine s_boxA rfl fun b5 => ?_
  refine sx ?_; refine s_drH (.hb b5 26 (Rg.cells ⟨qa, qc, lo, qha, qhc, hi, all⟩) :: .hb b4 26 (Rg.cells ⟨la, lc, lo, ha, hc, hi, all⟩) :: H) (.one true 0 (.one true 1 (.one true 2 (.one true 3 (.one true 4 (.one true 5 (.one true 6 (.one false 7 .nil)))))))) mixed (by kernel_rfl) ?_; refine sx ?_
  refine s_entL (ob la lc lo :: B.ck :: .hb b5 26 (Rg.cells ⟨qa, qc, lo, qha, qhc, hi, all⟩) :: .hb b4 26 (Rg.cells ⟨la, lc, lo, ha, hc, hi, all⟩) :: ob ha hc hi :: H) (by exact ent) ?_
  have g1 := holdB_s (w0 := w0) (B := B) (n := n) (H := .hb b5 26 (Rg.cells ⟨qa, qc, lo, qha, qhc, hi, all⟩) :: .hb b4 26 (Rg.cells ⟨la, lc, lo, ha, hc, hi, all⟩) :: ob ha hc hi :: H) (a := la) (c := lc) (a2 := qa) (c2 := qc) (xs := lo) hB (by omega) (by omega) h3.tl.tl.tl
  refine s_call rfl g1 ?_
  rintro _ _ ⟨B1, rfl, k1, p1, q1, ok1, in1, m1⟩
  refine ⟨chk_held (by exact ent), ?_⟩
  refine sx ?_
  refine sx ?_; refine s_drH (.hb b5 26 (Rg.cells ⟨qa, qc, lo, qha, qhc, hi, all⟩) :: .hb b4 26 (Rg.cells ⟨la, lc, lo, ha, hc, hi, all⟩) :: H) (.one true 0 (.one true 1 (.one true 2 (.one true 3 (.one true 4 (.one true 5 (.one true 6 (.one false 7 .nil)))))))) mixed (by kernel_rfl) ?_; refine sx ?_
  refine s_entL (ob ha hc hi :: B1.ck :: .hb b5 26 (Rg.cells ⟨qa, qc, lo, qha, qhc, hi, all⟩) :: .hb b4 26 (Rg.cells ⟨la, lc, lo, ha, hc, hi, all⟩) :: H) (by exact ent) ?_
  have g2 := holdB_s (w0 := w0) (B := B1) (n := n + 1) (H := .hb b5 26 (Rg.cells ⟨qa, qc, lo, qha, qhc, hi, all⟩) :: .hb b4 26 (Rg.cells ⟨la, lc, lo, ha, hc, hi, all⟩) :: H) (a := ha) (c := hc) (a2 := qha) (c2 := qhc) (xs := hi) ok1 (by omega) (by omega) h4.tl.tl
  rw [k1] at g2
  refine s_call rfl g2 ?_
  rintro _ _ ⟨B2, rfl, k2, p2, q2, ok2, in2, m2⟩
  refine ⟨chk_held (by exact ent), ?_⟩
  refine sx ?_
  refine s_callV rfl (lsame_s (r := ⟨la, lc, lo, ha, hc, hi, all⟩) (q := ⟨qa, qc, lo, qha, qhc, hi, all⟩) ⟨ob_by (in2 _ m1), ob_by m2⟩ ⟨h3.tl.tl.tl, h4.tl.tl.tl⟩) ?_
  rw [decide_eq_true rfl]
  refine sx ?_
  refine s_ret1 rfl rfl ⟨rfl, B2, rfl, by rw [k2, k1], by rw [p2, p1], by rw [q2, q1], ok2, fun t h => in2 _ (in1 t h), in2 _ m1, m2⟩ ?_
  exact Ent.head (Ent.tl (Ent.tl Ent.refl))
theorem Ob.Ok.mono {B : Ob} {n m : Nat} (h : B.Ok n) (hm : n ≤ m) : B.Ok m := ⟨h.same, Nat.le_trans h.len hm, h.small⟩
/-- A list of ranges, as a row. -/
structure SRg where
  a : Option Addr
  c : Nat
  xs : List Rg
@[reducible] def SRg.val (s : SRg) : Value := .slice s.a s.xs.length s.c
instance : Cel SRg := ⟨1, fun x => [x.val], fun _ => rfl, fun _ => rfl, Nat.one_pos⟩
instance : ElT Try.prog 23 SRg := ⟨trivial⟩
instance : Row SRg Rg := ⟨SRg.a, SRg.c, SRg.xs⟩
/-- Lists that came out, and what they must be. -/
structure LL where
  ra : Option Addr
  rc : Nat
  rs : List SRg
  wa : Option Addr
  wc : Nat
  ws : List SRg
  X : List Ck
def LL.ps (R : LL) : List Ck := [ol 23 R.ra R.rc R.rs, ol 23 R.wa R.wc R.ws, fam 26 R.rs, .star R.X]
/-- A lot with lists. -/
structure LL.Ok (R : LL) (B : Ob) (w0 : World) (n m : Nat) : Prop where
  p : B.p = .slice R.ra R.rs.length R.rc
  q : B.q = .slice R.wa R.ws.length R.wc
  len : R.ws.length = R.rs.length
  few : R.rs.length ≤ n
  each : ∀ s ∈ R.rs, s.xs.length ≤ m
  same : ∀ (i : Nat) (s t : SRg), R.rs[i]? = some s → R.ws[i]? = some t → s.xs.map Rg.d = t.xs.map Rg.d
  bys : ∀ s ∈ R.rs, ∀ r ∈ s.xs, (⟨r.la, r.lc, r.lo⟩ : SB) ∈ B.ls ∧ (⟨r.ha, r.hc, r.hi⟩ : SB) ∈ B.ls
  wsl : ∀ t ∈ R.ws, ∀ H, RSl w0 (.star R.X :: H) t.a t.c t.xs
  wby : ∀ t ∈ R.ws, ∀ r ∈ t.xs, ∀ H, RRg w0 (.star R.X :: H) r
theorem LL.Ok.snoc {R : LL} {B B' : Ob} {n m : Nat} {a wa ra2 wa2 : Option Addr} {c wc rc2 wc2 : Nat} {os ws : List Rg} {L : List Ck} (h : R.Ok B w0 n m) (hm : os.length ≤ m) (he : os.map Rg.d = ws.map Rg.d) (hw : ∀ H, RSl w0 (.star L :: H) wa wc ws) (hwb : ∀ o ∈ ws, ∀ H, RRg w0 (.star L :: H) o)
    (hin : ∀ t ∈ B.ls, t ∈ B'.ls) (hos : ∀ r ∈ os, (⟨r.la, r.lc, r.lo⟩ : SB) ∈ B'.ls ∧ (⟨r.ha, r.hc, r.hi⟩ : SB) ∈ B'.ls) (hp : B'.p = .slice ra2 (R.rs ++ [(⟨a, c, os⟩ : SRg)]).length rc2) (hq : B'.q = .slice wa2 (R.ws ++ [(⟨wa, wc, ws⟩ : SRg)]).length wc2) :
    (LL.mk ra2 rc2 (R.rs ++ [⟨a, c, os⟩]) wa2 wc2 (R.ws ++ [⟨wa, wc, ws⟩]) (.star L :: R.X)).Ok B' w0 (n + 1) m := by
  refine ⟨hp, hq, ?_, ?_, ?_, ?_, ?_, ?_, ?_⟩
  · simp only [List.length_append, List.length_cons, List.length_nil, h.len]
  · have := h.few; simp only [List.length_append, List.length_cons, List.length_nil]; omega
  · intro s hs
    simp only [List.mem_append, List.mem_singleton] at hs
    rcases hs with hs | rfl
    · exact h.each s hs
    · exact hm
  · intro i s t h1 h2
    simp only at h1 h2
    by_cases hi : i < R.rs.length
    · rw [List.getElem?_append_left hi] at h1
      rw [List.getElem?_append_left (by rw [h.len]; exact hi)] at h2
      exact h.same i s t h1 h2
    · rw [List.getElem?_append_right (by omega)] at h1
      rw [List.getElem?_append_right (by rw [h.len]; omega), h.len] at h2
      rcases Nat.eq_zero_or_pos (i - R.rs.length) with h0 | h0
      · rw [h0] at h1 h2
        cases h1
        cases h2
        exact he
      · rw [List.getElem?_eq_none (by simp only [List.length_cons, List.length_nil]; omega)] at h1
        cases h1
  · intro s hs r hr
    simp only [List.mem_append, List.mem_singleton] at hs
    rcases hs with hs | rfl
    · exact ⟨hin _ (h.bys s hs r hr).1, hin _ (h.bys s hs r hr).2⟩
    · exact hos r hr
  · intro t ht H
    simp only [List.mem_append, List.mem_singleton] at ht
    rcases ht with ht | rfl
    · exact RSl.ent (h.wsl t ht H) (Ent.open (Ent.tl (Ent.star Ent.refl)))
    · exact RSl.ent (hw (R.X ++ H)) (Ent.open Ent.refl)
  · intro t ht r hr H
    simp only [List.mem_append, List.mem_singleton] at ht
    rcases ht with ht | rfl
    · exact RRg.ent (h.wby t ht r hr H) (Ent.open (Ent.tl (Ent.star Ent.refl)))
    · exact RRg.ent (hwb r hr (R.X ++ H)) (Ent.open Ent.refl)
set_option maxHeartbeats 2000000 in
theorem list_s {B : Ob} {R : LL} {cnt n m : Nat} {a wa : Option Addr} {c wc : Nat} {os ws : List Rg} {L : List Ck} (hR : R.Ok B w0 n m) (hB : B.Ok cnt) (hn : n ≤ 1000) (hm : os.length ≤ m) (hm2 : m ≤ 4294967296) (hc : cnt ≤ 100000000000) (hL : ∀ r ∈ os, Lq r) (he : os.map Rg.d = ws.map Rg.d) (hw : ∀ H, RSl w0 (.star L :: H) wa wc ws) (hwb : ∀ o ∈ ws, ∀ H, RRg w0 (.star L :: H) o) :
    FnS Try.prog w0 (ol 26 a c os :: stars oRs os :: .star L :: (R.ps ++ (B.ck :: H))) 15 #[.pointer (some ⟨B.k, 0, none⟩), .slice a os.length c, .slice wa ws.length wc] (fun v H' => v = .bool true ∧ ∃ (R' : LL) (B' : Ob), H' = R'.ps ++ (B'.ck :: H) ∧ B'.k = B.k ∧ R'.Ok B' w0 (n + 1) m ∧ B'.Ok (cnt + 2 * m)) := by
  have hwl : ws.length = os.length := by have := congrArg List.length he; simpa using this.symm
  have hfew := hR.few
  have hrl := hR.len
  refine fns_enter Try.func15 rfl rfl rfl ?_
  obtain ⟨K, p, q, la, lc, ls, va, vc, vs⟩ := B
  have hp := hR.p
  have hq := hR.q
  simp only at hp hq
  subst hp
  subst hq
  refine s_ent (.hb K 34 [.slice R.ra R.rs.length R.rc, .slice R.wa R.ws.length R.wc, .slice la ls.length lc, .slice va vs.length vc] :: ol 23 R.ra R.rc R.rs :: ol 23 R.wa R.wc R.ws :: ol 24 la lc ls :: ol 9 va vc vs :: fam 5 ls :: fam 26 R.rs :: .star R.X :: ol 26 a c os :: stars oRs os :: .star L :: H) (by
      refine Ent.trans (H' := Ob.ck ⟨K, .slice R.ra R.rs.length R.rc, .slice R.wa R.ws.length R.wc, la, lc, ls, va, vc, vs⟩ :: ol 23 R.ra R.rc R.rs :: ol 23 R.wa R.wc R.ws :: fam 26 R.rs :: .star R.X :: ol 26 a c os :: stars oRs os :: .star L :: H) (by
        show Ent (ol 26 a c os :: stars oRs os :: .star L :: ol 23 R.ra R.rc R.rs :: ol 23 R.wa R.wc R.ws :: fam 26 R.rs :: .star R.X :: Ob.ck ⟨K, .slice R.ra R.rs.length R.rc, .slice R.wa R.ws.length R.wc, la, lc, ls, va, vc, vs⟩ :: H) _
        exact entq) ?_
      refine Ob.open.trans ?_
      show Ent (.hb K 34 [.slice R.ra R.rs.length R.rc, .slice R.wa R.ws.length R.wc, .slice la ls.length lc, .slice va vs.length vc] :: ol 24 la lc ls :: ol 9 va vc vs :: fam 5 ls :: ol 23 R.ra R.rc R.rs :: ol 23 R.wa R.wc R.ws :: fam 26 R.rs :: .star R.X :: ol 26 a c os :: stars oRs os :: .star L :: H) _
      exact entq) ?_
  refine sx ?_
  refine s_bsl [(⟨a, c, os⟩ : SRg)] rfl rfl fun b14 => ?_
  refine s_app ?_
  intro ra2 rc2
  refine sx ?_
  refine s_bsl [(⟨wa, wc, ws⟩ : SRg)] rfl rfl fun b24 => ?_
  refine s_app ?_
  intro wa2 wc2
  refine sx ?_
  refine s_ent (ol 26 a c os :: stars oRs os :: .star L :: ol 23 ra2 rc2 (R.rs ++ [(⟨a, c, os⟩ : SRg)]) :: ol 23 wa2 wc2 (R.ws ++ [(⟨wa, wc, ws⟩ : SRg)]) :: fam 26 R.rs :: .star R.X :: Ob.ck ⟨K, .slice ra2 (R.rs ++ [(⟨a, c, os⟩ : SRg)]).length rc2, .slice wa2 (R.ws ++ [(⟨wa, wc, ws⟩ : SRg)]).length wc2, la, lc, ls, va, vc, vs⟩ :: H) ?_ ?_
  · refine Ent.trans (H' := Ob.ck ⟨K, .slice ra2 (R.rs ++ [(⟨a, c, os⟩ : SRg)]).length rc2, .slice wa2 (R.ws ++ [(⟨wa, wc, ws⟩ : SRg)]).length wc2, la, lc, ls, va, vc, vs⟩ :: ol 23 ra2 rc2 (R.rs ++ [(⟨a, c, os⟩ : SRg)]) :: ol 23 wa2 wc2 (R.ws ++ [(⟨wa, wc, ws⟩ : SRg)]) :: fam 26 R.rs :: .star R.X :: ol 26 a c os :: stars oRs os :: .star L :: H) ?_ (by exact entq)
    refine Ent.trans (H' := .hb K 34 [.slice ra2 (R.rs ++ [(⟨a, c, os⟩ : SRg)]).length rc2, .slice wa2 (R.ws ++ [(⟨wa, wc, ws⟩ : SRg)]).length wc2, .slice la ls.length lc, .slice va vs.length vc] :: ol 24 la lc ls :: ol 9 va vc vs :: fam 5 ls :: ol 23 ra2 rc2 (R.rs ++ [(⟨a, c, os⟩ : SRg)]) :: ol 23 wa2 wc2 (R.ws ++ [(⟨wa, wc, ws⟩ : SRg)]) :: fam 26 R.rs :: .star R.X :: ol 26 a c os :: stars oRs os :: .star L :: H) ?_ (Ob.shut (B := ⟨K, .slice ra2 (R.rs ++ [(⟨a, c, os⟩ : SRg)]).length rc2, .slice wa2 (R.ws ++ [(⟨wa, wc, ws⟩ : SRg)]).length wc2, la, lc, ls, va, vc, vs⟩) (H := ol 23 ra2 rc2 (R.rs ++ [(⟨a, c, os⟩ : SRg)]) :: ol 23 wa2 wc2 (R.ws ++ [(⟨wa, wc, ws⟩ : SRg)]) :: fam 26 R.rs :: .star R.X :: ol 26 a c os :: stars oRs os :: .star L :: H))
    exact ent
  obtain ⟨B1, hB1⟩ : ∃ B1 : Ob, B1 = ⟨K, .slice ra2 (R.rs ++ [(⟨a, c, os⟩ : SRg)]).length rc2, .slice wa2 (R.ws ++ [(⟨wa, wc, ws⟩ : SRg)]).length wc2, la, lc, ls, va, vc, vs⟩ := ⟨_, rfl⟩
  rw [← hB1]
  have ok1 : B1.Ok cnt := by subst hB1; exact ⟨hB.same, hB.len, hB.small⟩
  have e1 : B1.k = K := by subst hB1; rfl
  have e2 : B1.p = .slice ra2 (R.rs ++ [(⟨a, c, os⟩ : SRg)]).length rc2 := by subst hB1; rfl
  have e3 : B1.q = .slice wa2 (R.ws ++ [(⟨wa, wc, ws⟩ : SRg)]).length wc2 := by subst hB1; rfl
  have e4 : ∀ t ∈ ls, t ∈ B1.ls := by subst hB1; exact fun _ h => h
  clear hB1
  refine s_loop (fun i : Nat × Ob => [(0, .pointer (some ⟨K, 0, none⟩)), (1, .slice a os.length c), (2, .slice wa ws.length wc), (7, .int .i64 i.1)]) (fun i => ol 26 a c os :: stars oRs (os.drop i.1) :: .star L :: ol 23 ra2 rc2 (R.rs ++ [(⟨a, c, os⟩ : SRg)]) :: ol 23 wa2 wc2 (R.ws ++ [(⟨wa, wc, ws⟩ : SRg)]) :: fam 26 R.rs :: .star R.X :: i.2.ck :: H)
    (fun i => i.1 ≤ os.length ∧ i.2.k = K ∧ i.2.p = B1.p ∧ i.2.q = B1.q ∧ i.2.Ok (cnt + 2 * i.1) ∧ (∀ t ∈ B1.ls, t ∈ i.2.ls) ∧ ∀ r ∈ os.take i.1, (⟨r.la, r.lc, r.lo⟩ : SB) ∈ i.2.ls ∧ (⟨r.ha, r.hc, r.hi⟩ : SB) ∈ i.2.ls) (fun i => os.length - i.1) (0, B1) ⟨Nat.zero_le _, e1, rfl, rfl, ok1, fun _ h => h, fun r h => by cases h⟩ ?_ (he := Ent.refl)
  rintro ⟨i, B2⟩ ⟨hi, hk2, hp2, hq2, ok2, hin2, hos2⟩
  simp only at hi hk2 hp2 hq2 ok2 hin2 hos2 ⊢
  refine sx ?_
  refine s_lif rfl (fun t1 => ?_) (fun t1 => ?_)
  · refine sx ?_
    refine s_if rfl (fun t2 => ?_) (fun t2 => by exfalso; omega)
    obtain ⟨r, hr⟩ := get_lt os i (by omega)
    obtain ⟨q, hq⟩ := get_lt ws i (by omega)
    have hd : r.d = q.d := by
      have h1 := get_map (f := Rg.d) hr
      have h2 := get_map (f := Rg.d) hq
      rw [he, h2] at h1
      exact (Option.some.inj h1).symm
    have hLr := hL r (List.mem_of_getElem? hr)
    refine s_ent (.star L :: ol 26 a c os :: ob r.la r.lc r.lo :: ob r.ha r.hc r.hi :: stars oRs (os.drop (i + 1)) :: ol 23 ra2 rc2 (R.rs ++ [(⟨a, c, os⟩ : SRg)]) :: ol 23 wa2 wc2 (R.ws ++ [(⟨wa, wc, ws⟩ : SRg)]) :: fam 26 R.rs :: .star R.X :: B2.ck :: H) (by
      rw [dropG hr]
      refine Ent.trans (H' := stars oRs (r :: os.drop (i + 1)) :: .star L :: ol 26 a c os :: ol 23 ra2 rc2 (R.rs ++ [(⟨a, c, os⟩ : SRg)]) :: ol 23 wa2 wc2 (R.ws ++ [(⟨wa, wc, ws⟩ : SRg)]) :: fam 26 R.rs :: .star R.X :: B2.ck :: H) (by exact entq) ?_
      exact Ent.trans (H' := ob r.la r.lc r.lo :: ob r.ha r.hc r.hi :: stars oRs (os.drop (i + 1)) :: .star L :: ol 26 a c os :: ol 23 ra2 rc2 (R.rs ++ [(⟨a, c, os⟩ : SRg)]) :: ol 23 wa2 wc2 (R.ws ++ [(⟨wa, wc, ws⟩ : SRg)]) :: fam 26 R.rs :: .star R.X :: B2.ck :: H) (stars_cons (f := oRs)) (by exact entq)) ?_
    have hx2 : RSl w0 (.star L :: ol 26 a c os :: H) wa wc ws := hw _
    refine sx ?_
    refine s_drH (.star L :: ol 26 a c os :: H) (.one true 0 (.one true 1 (.one true 2 (.one true 3 (.one true 4 (.one true 5 (.one true 6 (.one true 7 (.one true 8 (.one false 9 .nil)))))))))) mixed (by kernel_rfl) ?_
    refine sx ?_
    have g1 := rangeL_s (B := B2) (n := cnt + 2 * i) (r := r) (q := q) (H := .star L :: ol 26 a c os :: stars oRs (os.drop (i + 1)) :: ol 23 ra2 rc2 (R.rs ++ [(⟨a, c, os⟩ : SRg)]) :: ol 23 wa2 wc2 (R.ws ++ [(⟨wa, wc, ws⟩ : SRg)]) :: fam 26 R.rs :: .star R.X :: H) ok2 (by omega) (hwb q (List.mem_of_getElem? hq) _) hd hLr
    rw [hk2] at g1
    refine s_call rfl (FnS.ent g1 (by exact entq)) ?_
    rintro _ _ ⟨rfl, B3, rfl, k3, p3, q3, ok3, in3, m1, m2⟩
    refine ⟨chk_held (by exact entq), ?_⟩
    refine sx ?_
    refine s_again (i + 1, B3) ⟨by simp only; omega, k3.trans hk2, p3.trans hp2, q3.trans hq2, ok3, fun t h => in3 t (hin2 t h), fun y hy => ?_⟩ (by simp only; omega) (he := by exact entq)
    simp only at hy
    rw [snocT hr] at hy
    simp only [List.mem_append, List.mem_singleton] at hy
    rcases hy with hy | rfl
    · exact ⟨in3 _ (hos2 y hy).1, in3 _ (hos2 y hy).2⟩
    · exact ⟨m1, m2⟩
  · obtain rfl : i = os.length := by omega
    rw [List.take_length] at hos2
    refine s_entL (B2.ck :: .star L :: ol 26 a c os :: ol 23 ra2 rc2 (R.rs ++ [(⟨a, c, os⟩ : SRg)]) :: ol 23 wa2 wc2 (R.ws ++ [(⟨wa, wc, ws⟩ : SRg)]) :: fam 26 R.rs :: .star R.X :: H) (by exact entq) ?_
    refine sx ?_
    refine s_callV rfl (lsames_s (xs := os) (ys := ws) (RSl.hd.tl.tl) (hw _).tl (fun r h => ⟨ob_by (hos2 r h).1, ob_by (hos2 r h).2⟩) (fun r h => (hwb r h _).tl)) ?_
    rw [decide_eq_true he]
    refine sx ?_
    refine s_ret1 rfl rfl ⟨rfl, ⟨ra2, rc2, R.rs ++ [⟨a, c, os⟩], wa2, wc2, R.ws ++ [⟨wa, wc, ws⟩], .star L :: R.X⟩, B2, rfl, hk2, hR.snoc hm he hw hwb (fun t h => hin2 t (e4 t h)) hos2 (by rw [hp2, e2]) (by rw [hq2, e3]), ok2.mono (by omega)⟩ ?_
    show Ent _ (ol 23 ra2 rc2 (R.rs ++ [(⟨a, c, os⟩ : SRg)]) :: ol 23 wa2 wc2 (R.ws ++ [(⟨wa, wc, ws⟩ : SRg)]) :: fam 26 (R.rs ++ [(⟨a, c, os⟩ : SRg)]) :: .star (.star L :: R.X) :: B2.ck :: H)
    refine Ent.cons (by exact rm) (Ent.cons (by exact rm) ?_)
    refine Ent.famS (s := (⟨a, c, os⟩ : SRg)) (by exact rm) (by exact rm) ?_
    refine Ent.trans (H' := .star L :: .star R.X :: B2.ck :: H) (by exact entq) ?_
    exact Ent.star (Ent.head (Ent.open Ent.refl))
end Go.Sx
