/- Part of a proof: several parts of a walk, one behind the other. -/
import Derived.Test.YtpnhoafmlhlfgaaGreatCKB
namespace Go.Sx
open Go Go.Proofs
set_option maxRecDepth 10000
theorem common_go (w : World) (a a' : Option Addr) (c c' : Nat) (xs ys : List UInt8) (ha : By w a c xs) (hb : By w a' c' ys) :
    Fn Tryz.prog 71 #[.slice a xs.length c, .slice a' ys.length c'] w (fun v w' => v = .int .i64 (common xs ys) ∧ Ex w w') := by
  have l1 := ha.len
  have l2 := hb.len
  refine fn_enter Tryz.func71 rfl rfl rfl ?_
  refine sxo ?_
  refine c_loop (fun k : Nat => [(0, .slice a xs.length c), (1, .slice a' ys.length c'), (5, .int .i64 ((min xs.length ys.length : Nat) : Int)), (12, .int .i64 ((min xs.length ys.length : Nat) : Int)), (13, .int .i64 k)])
    (fun k w1 => Ex w w1 ∧ k ≤ xs.length ∧ k ≤ ys.length ∧ ∀ i, i < k → xs.getD i 0 = ys.getD i 0) (fun k => xs.length - k) 0 (by exact ⟨rfl, rfl, rfl, rfl, rfl, trivial⟩) ⟨Ext.refl w, Nat.zero_le _, Nat.zero_le _, fun i hi => absurd hi (by omega)⟩ ?_
  rintro k w1 ⟨hE, hk1, hk2, hk⟩
  refine sxo ?_
  refine c_if rfl (fun hlt => ?_) (fun hge => ?_)
  · obtain ⟨ad, rfl⟩ := ha.some (by omega)
    obtain ⟨ad', rfl⟩ := hb.some (by omega)
    have ha1 := ha.ex hE
    have hb1 := hb.ex hE
    refine sxo ?_
    refine c_dr (fun _ => False) (.one true 0 (.one true 1 (.one true 2 (.one true 3 (.one true 4 (.one true 5 (.one true 6 (.one true 7 (.one true 8 .nil))))))))) mixed (by kernel_rfl) ?_
    intro w2 hE2 hh
    refine sxo ?_
    refine c_ifn rfl (fun hne => ?_) (fun heq => ?_)
    · refine sxo ?_
      refine q_ret1 rfl rfl ⟨?_, hE.trans hE2⟩
      rw [common_eq xs ys k (by omega) (by omega) hk (.inr (.inr hne))]
    · refine sxo ?_
      refine q_again (k + 1) ⟨rfl, rfl, rfl, rfl, rfl, trivial⟩ ⟨hE.trans hE2, by omega, by omega, fun i hi => ?_⟩ (by omega)
      rcases Nat.lt_or_eq_of_le (Nat.lt_succ_iff.1 hi) with h | rfl
      · exact hk i h
      · exact heq
  · refine sxo ?_
    refine q_ret1 rfl rfl ⟨?_, hE⟩
    rw [common_eq xs ys (min xs.length ys.length) (by omega) (by omega) (fun i hi => hk i (by omega)) (by omega)]

theorem compare_go (w : World) (a a' : Option Addr) (c c' : Nat) (xs ys : List UInt8) (ha : By w a c xs) (hb : By w a' c' ys) :
    Fn Tryz.prog 38 #[.slice a xs.length c, .slice a' ys.length c'] w (fun v w' => v = .int .i64 (cmp xs ys) ∧ Ex w w') := by
  have l1 := ha.len
  have l2 := hb.len
  have hcl := common_le xs ys
  refine fn_enter Tryz.func38 rfl rfl rfl ?_
  refine sxo ?_
  refine l_call rfl rfl rfl rfl (common_go w a a' c c' xs ys ha hb) ?_
  rintro _ w2 ⟨rfl, hE2⟩
  refine ⟨trivial, ?_⟩
  have ha2 := ha.ex hE2
  have hb2 := hb.ex hE2
  refine sxo ?_
  have hc := cmp_common xs ys
  refine l_if rfl (fun h1 => ?_) (fun h1 => ?_)
  · have h1' : common xs ys = xs.length := by omega
    refine sxo ?_
    refine c_if rfl (fun h2 => ?_) (fun h2 => ?_)
    · have h2' : common xs ys = ys.length := by omega
      refine sxo ?_
      exact q_ret1 rfl rfl ⟨by rw [hc, if_pos ⟨h1', h2'⟩], hE2⟩
    · refine sxo ?_
      refine c_if rfl (fun _ => ?_) (fun h3 => absurd h1 h3)
      refine sxo ?_
      exact q_ret1 rfl rfl ⟨by rw [hc, if_neg (by omega), if_pos h1'], hE2⟩
  · have h1' : ¬ common xs ys = xs.length := by omega
    refine sxo ?_
    refine c_if rfl (fun h3 => absurd h3 h1) (fun _ => ?_)
    refine sxo ?_
    refine c_dr (fun _ => False) (.one true 0 (.one true 1 (.one true 2 (.one true 3 (.one true 4 (.one true 5 (.one true 6 (.one true 7 (.one true 8 (.one true 9 (.one true 10 (.one true 11 (.one true 12 (.one true 13 (.one true 14 (.one true 15 .nil)))))))))))))))) mixed (by kernel_rfl) ?_
    intro w3 hE3 hh
    refine sxo ?_
    refine l_if rfl (fun h2 => ?_) (fun h2 => ?_)
    · refine sxo ?_
      exact q_ret1 rfl rfl ⟨by rw [hc, if_neg (by omega), if_neg h1', if_pos (.inl (by omega))], hE2.trans hE3⟩
    · obtain ⟨ad, rfl⟩ := ha.some (by omega)
      obtain ⟨ad', rfl⟩ := hb.some (by omega)
      refine sxo ?_
      refine c_if rfl (fun h4 => ?_) (fun h4 => ?_)
      · refine sxo ?_
        exact q_ret1 rfl rfl ⟨by rw [hc, if_neg (by omega), if_neg h1', if_pos (.inr h4)], hE2.trans hE3⟩
      · refine sxo ?_
        exact q_ret1 rfl rfl ⟨by rw [hc, if_neg (by omega), if_neg h1', if_neg (by rintro (h | h); omega; exact h4 h)], hE2.trans hE3⟩

/-- A range, as a struct's cells. -/
structure Rg where
  la : Option Addr
  lc : Nat
  lo : Bs
  ha : Option Addr
  hc : Nat
  hi : Bs
  all : Bool
def Rg.cells (r : Rg) : List Value := [.slice r.la r.lo.length r.lc, .slice r.ha r.hi.length r.hc, .bool r.all]
section
variable {w0 : World} {H : List Ck}
@[reducible] def ob (a : Option Addr) (c : Nat) (xs : Bs) : Ck := ol 5 a c xs
abbrev I64 (x : Int) : Prop := -9223372036854775808 ≤ x ∧ x ≤ 9223372036854775807
variable {a a' : Option Addr} {c c' : Nat} {xs ys : Bs}
theorem compare_s (ha : RBy w0 H a c xs) (hb : RBy w0 H a' c' ys) : FnV Tryz.prog w0 H 38 #[.slice a xs.length c, .slice a' ys.length c'] (.int .i64 (cmp xs ys)) :=
  FnV.of fun w hs => compare_go w _ _ _ _ _ _ (ha w hs) (hb w hs)
end
end Go.Sx
namespace Go.Sx
open Go Go.Proofs
set_option maxRecDepth 10000
instance celRg : Cel Rg := ⟨3, fun r => r.cells, fun _ => rfl, fun _ => rfl, by decide⟩
instance : ElT Tryz.prog 57 Rg := ⟨trivial⟩
abbrev T3 := Bs × Bs × Bool
abbrev Rg.d (r : Rg) : T3 := (r.lo, r.hi, r.all)
def emR (d : T3) : Bool := !d.2.2 && decide (cmp d.2.1 d.1 ≤ 0)
def beR (a b : T3) : Bool := !a.2.2 && (b.2.2 || decide (cmp a.2.1 b.2.1 < 0))
abbrev t30 : T3 := ([], [], false)
def foR (d : T3) : T3 := if emR d = true then t30 else if d.2.2 = true then (d.1, [], true) else d
def meR (a b : T3) : T3 := if (emR a || emR b) = true then t30 else foR (if 0 < cmp b.1 a.1 then b.1 else a.1, if beR b a = true then b.2.1 else a.2.1, if beR b a = true then b.2.2 else a.2.2)
abbrev rg0 : Rg := ⟨none, 0, [], none, 0, [], false⟩
variable {w0 : World} {H : List Ck}
structure RRg (w0 : World) (H : List Ck) (r : Rg) : Prop where
  lo : RBy w0 H r.la r.lc r.lo
  hi : RBy w0 H r.ha r.hc r.hi
theorem RRg.tl {r : Rg} {d : Ck} (h : RRg w0 H r) : RRg w0 (d :: H) r := ⟨h.lo.tl, h.hi.tl⟩
theorem RRg.ent {r : Rg} {H' : List Ck} (h : RRg w0 H' r) (e : Ent H H') : RRg w0 H r := ⟨h.lo.ent e, h.hi.ent e⟩
@[reducible] def oR (r : Rg) : Ck := .star [ob r.la r.lc r.lo, ob r.ha r.hc r.hi]
theorem RRg.oR {r : Rg} : RRg w0 (oR r :: H) r := ⟨RBy.ent RBy.hd (Ent.mem' (c := ob r.la r.lc r.lo) (by simp)), RBy.ent RBy.hd (Ent.mem' (c := ob r.ha r.hc r.hi) (by simp))⟩
theorem rrg {r : Rg} (h : RRg w0 H r := by (repeat (first | assumption | exact RRg.oR | apply RRg.tl)); first | done | fail) : RRg w0 H r := h
theorem Ent.oR {r : Rg} {R1 R2 H' : List Ck} (h1 : Rm (ob r.la r.lc r.lo) H R1) (h2 : Rm (ob r.ha r.hc r.hi) R1 R2) (h : Ent R2 H') : Ent H (Sx.oR r :: H') := by
  refine Ent.trans (H' := ob r.la r.lc r.lo :: ob r.ha r.hc r.hi :: H') ?_ (Ent.star (L := [ob r.la r.lc r.lo, ob r.ha r.hc r.hi]) Ent.refl)
  exact Ent.cons h1 (Ent.cons h2 h)
theorem hnilR {H : List Ck} : Ent H (oR rg0 :: H) := Ent.nilS.trans ((Ent.head Ent.nilS).trans (Ent.oR (r := rg0) Rm.hd Rm.hd Ent.refl))
theorem bclone_s {a : Option Addr} {c : Nat} {xs : Bs} (ha : RBy w0 H a c xs) (hx : xs.length ≤ 140737488355328) : FnS Tryz.prog w0 H 73 #[.slice a xs.length c] (fun v H' => ∃ a' c', v = .slice a' xs.length c' ∧ H' = ob a' c' xs :: H) := by
  refine fns_enter Tryz.func73 rfl rfl rfl ?_
  refine sx ?_
  refine s_cond rfl (fun t1 => ?_) (fun t1 => ?_)
  · refine s_kn (φ := xs = []) (fun w hw => ?_) fun e => ?_
    · have h := ha w hw
      have h1 := h.nil (by simpa using t1)
      exact List.eq_nil_of_length_eq_zero (by have := h.le; omega)
    subst e
    refine sx ?_
    exact s_ret1 rfl rfl ⟨none, 0, rfl, rfl⟩ Ent.nilS
  refine sx ?_
  refine s_bsl ([] : List UInt8) rfl rfl fun b1 => ?_
  refine sx ?_
  refine s_app (ys := xs) ?_
  intro a1 c1
  refine sx ?_
  exact s_ret1 rfl rfl ⟨a1, c1, rfl, rfl⟩
theorem clip_s {a : Option Addr} {c : Nat} {xs : Bs} : FnS Tryz.prog w0 (ob a c xs :: H) 72 #[.slice a xs.length c] (fun v H' => v = .slice a xs.length xs.length ∧ H' = ob a xs.length xs :: H) := by
  refine fns_enter Tryz.func72 rfl rfl rfl ?_
  refine s_kn (Kn.by (RBy.hd : RBy w0 (ob a c xs :: H) a c xs)) fun l1 => ?_
  refine sx ?_
  refine s_yS rfl rfl rfl (y_slU rfl rfl rfl (by omega)) ?_
  refine sx ?_
  exact s_ret1 rfl rfl ⟨rfl, rfl⟩ (Ent.clip (Nat.le_refl _) (by omega))
theorem ocopied_s {a : Option Addr} {c : Nat} {xs : Bs} (ha : RBy w0 H a c xs) (hx : xs.length ≤ 140737488355328) : FnS Tryz.prog w0 H 95 #[.slice a xs.length c] (fun v H' => ∃ a', v = .slice a' xs.length xs.length ∧ H' = ob a' xs.length xs :: H) := by
  refine fns_enter Tryz.func95 rfl rfl rfl ?_
  refine sx ?_
  refine s_call rfl (bclone_s ha hx) ?_
  rintro _ _ ⟨a1, c1, rfl, rfl⟩
  refine ⟨chk_seq, ?_⟩
  refine s_call rfl clip_s ?_
  rintro _ _ ⟨rfl, rfl⟩
  refine ⟨chk_seq, ?_⟩
  refine sx ?_
  exact s_ret1 rfl rfl ⟨a1, rfl, rfl⟩
theorem oempty_s {r : Rg} (hr : RRg w0 H r) : FnV Tryz.prog w0 H 49 #[.agg r.cells.toArray] (.bool (emR r.d)) := by
  have h1 := hr.lo
  have h2 := hr.hi
  obtain ⟨la, lc, lo, ha, hc, hi, all⟩ := r
  refine fns_enter Tryz.func49 rfl rfl rfl ?_
  refine sx ?_
  refine s_boxA rfl fun b => ?_
  refine sx ?_
  cases all
  · refine sx ?_
    refine s_callV rfl (compare_s (by exact rby) (by exact rby)) ?_
    refine sx ?_
    exact s_ret1 rfl rfl ⟨by simp [emR], rfl⟩
  · refine sx ?_
    exact s_ret1 rfl rfl ⟨by simp [emR], rfl⟩
theorem obelow_s {r q : Rg} (hr : RRg w0 H r) (hq : RRg w0 H q) : FnV Tryz.prog w0 H 81 #[.agg r.cells.toArray, .agg q.cells.toArray] (.bool (beR r.d q.d)) := by
  have h2 := hr.hi
  have h4 := hq.hi
  obtain ⟨la, lc, lo, ha, hc, hi, all⟩ := r
  obtain ⟨la', lc', lo', ha', hc', hi', all'⟩ := q
  refine fns_enter Tryz.func81 rfl rfl rfl ?_
  refine sx ?_
  refine s_boxA rfl fun b => ?_
  refine sx ?_
  refine s_boxA rfl fun b' => ?_
  refine sx ?_
  cases all
  · cases all'
    · refine sx ?_
      refine s_callV rfl (compare_s (by exact rby) (by exact rby)) ?_
      refine sx ?_
      exact s_ret1 rfl rfl ⟨by simp [beR], rfl⟩
    · refine sx ?_
      exact s_ret1 rfl rfl ⟨by simp [beR], rfl⟩
  · refine sx ?_
    exact s_ret1 rfl rfl ⟨by simp [beR], rfl⟩
abbrev FoR (d : T3) (H : List Ck) : Value → List Ck → Prop := fun v H' => ∃ r' : Rg, v = .agg r'.cells.toArray ∧ r'.d = d ∧ H' = oR r' :: H
theorem oform_s {r : Rg} (hr : RRg w0 H r) (hl : r.lo.length ≤ 140737488355328 ∧ r.hi.length ≤ 140737488355328) : FnS Tryz.prog w0 H 82 #[.agg r.cells.toArray] (FoR (foR r.d) H) := by
  have h1 := hr.lo
  have h2 := hr.hi
  have hem := oempty_s (w0 := w0) (H := H) hr
  obtain ⟨la, lc, lo, ha, hc, hi, all⟩ := r
  simp only at h1 h2 hl
  refine fns_enter Tryz.func82 rfl rfl rfl ?_
  refine sx ?_
  refine s_boxA rfl fun b1 => ?_
  refine sx ?_
  refine s_alloc fun b2 => ?_
  refine sx ?_
  refine s_alloc fun b3 => ?_
  refine sx ?_
  refine s_callV rfl (oempty_s (r := ⟨la, lc, lo, ha, hc, hi, all⟩) (by exact rrg)) ?_
  refine sx ?_
  refine s_cond rfl (fun t1 => ?_) (fun t1 => ?_)
  · refine sx ?_
    refine s_retc rfl rfl (by exact at_) rfl ⟨rg0, rfl, by rw [foR, if_pos t1], rfl⟩ ?_
    exact Ent.trans (H' := H) (by exact ent) hnilR
  cases all
  · refine sx ?_
    refine s_call rfl (ocopied_s (xs := hi) (by exact rby) (by omega)) ?_
    rintro _ _ ⟨a4, rfl, rfl⟩
    refine ⟨chk_seq, ?_⟩
    refine sx ?_
    refine s_call rfl (ocopied_s (xs := lo) (by exact rby) (by omega)) ?_
    rintro _ _ ⟨a5, rfl, rfl⟩
    refine ⟨chk_seq, ?_⟩
    refine sx ?_
    refine s_retc rfl rfl (by exact at_) rfl ⟨⟨a5, lo.length, lo, a4, hi.length, hi, false⟩, rfl, by rw [foR, if_neg (by rw [t1]; simp), if_neg (by simp)], rfl⟩ ?_
    exact Ent.oR (by exact rm) (by exact rm) (by exact ent)
  · refine sx ?_
    refine s_call rfl (ocopied_s (xs := lo) (by exact rby) (by omega)) ?_
    rintro _ _ ⟨a5, rfl, rfl⟩
    refine ⟨chk_seq, ?_⟩
    refine sx ?_
    refine s_retc rfl rfl (by exact at_) rfl ⟨⟨a5, lo.length, lo, none, 0, [], true⟩, rfl, by rw [foR, if_neg (by rw [t1]; simp), if_pos rfl], rfl⟩ ?_
    refine Ent.trans ?_ (Ent.head Ent.nilS |>.trans (Ent.oR (r := ⟨a5, lo.length, lo, none, 0, [], true⟩) Rm.hd Rm.hd Ent.refl))
    exact ent
theorem omeet_s {r q : Rg} (hr : RRg w0 H r) (hq : RRg w0 H q) (hl : r.lo.length ≤ 140737488355328 ∧ r.hi.length ≤ 140737488355328) (hl' : q.lo.length ≤ 140737488355328 ∧ q.hi.length ≤ 140737488355328) : FnS Tryz.prog w0 H 50 #[.agg r.cells.toArray, .agg q.cells.toArray] (FoR (meR r.d q.d) H) := by
  have h1 := hr.lo
  have h2 := hr.hi
  have h3 := hq.lo
  have h4 := hq.hi
  refine fns_enter Tryz.func50 rfl rfl rfl ?_
  refine sx ?_
  refine s_boxA rfl fun b2 => ?_
  refine sx ?_
  refine s_boxA rfl fun b3 => ?_
  refine sx ?_
  refine s_alloc fun b4 => ?_
  refine sx ?_
  refine s_callV rfl (oempty_s (r := r) (by exact rrg)) ?_
  refine sx ?_
  refine s_lsp rfl (fun t1 => ?_) (fun t1 => ?_)
  · refine sx ?_
    refine s_retc rfl rfl (by exact at_) rfl ⟨rg0, rfl, by rw [meR, if_pos (by rw [t1]; rfl)], rfl⟩ ?_
    exact Ent.trans (H' := H) (by exact ent) hnilR
  refine sx ?_
  refine s_callV rfl (oempty_s (r := q) (by exact rrg)) ?_
  refine sx ?_
  refine s_cond rfl (fun t2 => ?_) (fun t2 => ?_)
  · refine sx ?_
    refine s_retc rfl rfl (by exact at_) rfl ⟨rg0, rfl, by rw [meR, if_pos (by rw [t1, t2]; rfl)], rfl⟩ ?_
    exact Ent.trans (H' := H) (by exact ent) hnilR
  refine sx ?_
  refine s_alloc fun b5 => ?_
  refine sx ?_
  refine s_callV rfl (compare_s (xs := q.lo) (ys := r.lo) (by exact rby) (by exact rby)) ?_
  refine sx ?_
  refine s_if rfl (fun t3 => ?_) (fun t3 => ?_)
  · refine sx ?_
    refine s_callV rfl (obelow_s (r := q) (q := r) (by exact rrg) (by exact rrg)) ?_
    refine sx ?_
    refine s_cond rfl (fun t4 => ?_) (fun t4 => ?_)
    · refine sx ?_; refine s_drR (.hb b5 57 _) (by exact rm) (.one true 0 (.one true 1 (.one true 2 (.one true 3 (.one true 4 (.one false 5 (.one true 6 (.one false 7 .nil)))))))) mixed (by kernel_rfl) ?_; refine sx ?_
      refine sx ?_
      refine s_rw (t := 32) (v' := .agg (Rg.cells ⟨q.la, q.lc, q.lo, q.ha, q.hc, q.hi, q.all⟩).toArray) rfl rfl ?_
      refine s_call rfl (oform_s (r := ⟨q.la, q.lc, q.lo, q.ha, q.hc, q.hi, q.all⟩) ⟨by exact rby, by exact rby⟩ (by simp only; omega)) ?_
      rintro _ _ ⟨x, rfl, hx, rfl⟩
      refine ⟨chk_seq, ?_⟩
      refine sx ?_
      refine s_retc rfl rfl (by exact at_) rfl ⟨x, rfl, ?_, rfl⟩ (by exact ent)
      rw [hx, meR, if_neg (by rw [t1, t2]; simp), if_pos t3, if_pos t4, if_pos t4]
    · refine sx ?_
      refine s_rw (t := 32) (v' := .agg (Rg.cells ⟨q.la, q.lc, q.lo, r.ha, r.hc, r.hi, r.all⟩).toArray) rfl rfl ?_
      refine s_call rfl (oform_s (r := ⟨q.la, q.lc, q.lo, r.ha, r.hc, r.hi, r.all⟩) ⟨by exact rby, by exact rby⟩ (by simp only; omega)) ?_
      rintro _ _ ⟨x, rfl, hx, rfl⟩
      refine ⟨chk_seq, ?_⟩
      refine sx ?_
      refine s_retc rfl rfl (by exact at_) rfl ⟨x, rfl, ?_, rfl⟩ (by exact ent)
      rw [hx, meR, if_neg (by rw [t1, t2]; simp), if_pos t3, if_neg (by simp [t4]), if_neg (by simp [t4])]
  · refine sx ?_
    refine s_callV rfl (obelow_s (r := q) (q := r) (by exact rrg) (by exact rrg)) ?_
    refine sx ?_
    refine s_cond rfl (fun t4 => ?_) (fun t4 => ?_)
    · refine sx ?_; refine s_drR (.hb b5 57 _) (by exact rm) (.one true 0 (.one true 1 (.one true 2 (.one true 3 (.one true 4 (.one false 5 (.one true 6 (.one false 7 .nil)))))))) mixed (by kernel_rfl) ?_; refine sx ?_
      refine sx ?_
      refine s_rw (t := 32) (v' := .agg (Rg.cells ⟨r.la, r.lc, r.lo, q.ha, q.hc, q.hi, q.all⟩).toArray) rfl rfl ?_
      refine s_call rfl (oform_s (r := ⟨r.la, r.lc, r.lo, q.ha, q.hc, q.hi, q.all⟩) ⟨by exact rby, by exact rby⟩ (by simp only; omega)) ?_
      rintro _ _ ⟨x, rfl, hx, rfl⟩
      refine ⟨chk_seq, ?_⟩
      refine sx ?_
      refine s_retc rfl rfl (by exact at_) rfl ⟨x, rfl, ?_, rfl⟩ (by exact ent)
      rw [hx, meR, if_neg (by rw [t1, t2]; simp), if_neg t3, if_pos t4, if_pos t4]
    · refine sx ?_
      refine s_rw (t := 32) (v' := .agg (Rg.cells ⟨r.la, r.lc, r.lo, r.ha, r.hc, r.hi, r.all⟩).toArray) rfl rfl ?_
      refine s_call rfl (oform_s (r := ⟨r.la, r.lc, r.lo, r.ha, r.hc, r.hi, r.all⟩) ⟨by exact rby, by exact rby⟩ (by simp only; omega)) ?_
      rintro _ _ ⟨x, rfl, hx, rfl⟩
      refine ⟨chk_seq, ?_⟩
      refine sx ?_
      refine s_retc rfl rfl (by exact at_) rfl ⟨x, rfl, ?_, rfl⟩ (by exact ent)
      rw [hx, meR, if_neg (by rw [t1, t2]; simp), if_neg t3, if_neg (by simp [t4]), if_neg (by simp [t4])]
end Go.Sx
namespace Go.Sx
open Go Go.Proofs
set_option maxRecDepth 10000
variable {w0 : World} {H : List Ck}
@[reducible] def oKVs (e : KV) : List Ck := [ob e.ka e.kc e.k, ob e.va e.vc e.v]
/-- What is read of an entry. -/
structure REe (w0 : World) (H : List Ck) (e : KV) : Prop where
  k : RBy w0 H e.ka e.kc e.k
  v : RBy w0 H e.va e.vc e.v
theorem REe.tl {e : KV} {d : Ck} (h : REe w0 H e) : REe w0 (d :: H) e := ⟨h.k.tl, h.v.tl⟩
theorem REe.ent {e : KV} {H' : List Ck} (h : REe w0 H' e) (g : Ent H H') : REe w0 H e := ⟨h.k.ent g, h.v.ent g⟩
theorem REe.st {es : List KV} {e : KV} (h : e ∈ es) : REe w0 (stars oKVs es :: H) e := REe.ent (H' := oKVs e) ⟨RBy.hd, RBy.hd.tl⟩ (stars_mem h)
theorem Ent.dropL {H : List Ck} : ∀ (L : List Ck), Ent (L ++ H) H
  | [] => Ent.refl
  | _ :: L => Ent.tl (Ent.dropL L)
theorem stars_sub {f : KV → List Ck} {F G : List KV} (h : G.Sublist F) {H : List Ck} : Ent (stars f F :: H) (stars f G :: H) := by
  obtain ⟨R, hp⟩ := h.exists_perm_append
  refine (stars_perm hp).trans ?_
  refine Ent.open ?_
  rw [List.flatMap_append, List.append_assoc]
  refine Ent.trans (H' := G.flatMap f ++ H) ?_ (Ent.star Ent.refl)
  exact Ent.appL (Ent.dropL _)
end Go.Sx
namespace Go.Sx
open Go
theorem get_map {α β : Type} {f : α → β} {l : List α} {i : Nat} {x : α} (h : l[i]? = some x) : (l.map f)[i]? = some (f x) := by simp [h]
theorem snocT {α : Type} {l : List α} {i : Nat} {e : α} (h : l[i]? = some e) : l.take (i + 1) = l.take i ++ [e] := by
  obtain ⟨hi, rfl⟩ := List.getElem?_eq_some_iff.1 h
  exact (List.take_append_getElem hi).symm
theorem dropG {α : Type} {l : List α} {i : Nat} {e : α} (h : l[i]? = some e) : l.drop i = e :: l.drop (i + 1) := by
  obtain ⟨hi, rfl⟩ := List.getElem?_eq_some_iff.1 h
  exact List.drop_eq_getElem_cons hi
section
variable {w0 : World} {H : List Ck}
theorem s_rwQ {n : Nat} {ds : Dx} {Q : Exit → Act → World → Prop} {e : Exit} {l : List (Nat × Value)} {t : Nat} {v v' : Value} (h : look l t = some v) (he : v = v') (k : SQ n ds Q e ((t, v') :: l) w0 H) : SQ n ds Q e l w0 H := by
  subst he
  refine .mk fun w hs => .mk fun a ha => (k.out w hs).out a ⟨ha.size, ha.defers, fun t' u ht => ?_⟩
  simp only [look] at ht
  by_cases e : t = t'
  · subst e; simp at ht; subst ht; exact ha.has _ _ h
  · have hb : Nat.beq t t' = false := by rw [← Bool.not_eq_true, Nat.beq_eq]; exact e
    rw [hb] at ht
    exact ha.has _ u ht
end
section
variable {fn : Func} {R : Value → World → Prop} {P : Program} {n : Nat} {l : List (Nat × Value)} {w : World}
/-- Two structs are returned. -/
theorem q_retcc {t t' : Tmp} {T : TypeId} {sz : Nat} [h : AgT P T sz] {k U k' U' : Nat} {vs vs' : List Value} (hr : fn.results = #[.cell t T, .cell t' T]) (hl : look l t = some (.pointer (some ⟨k, 0, none⟩))) (hl' : look l t' = some (.pointer (some ⟨k', 0, none⟩))) (hB : HB w k U vs) (hz : vs.length = sz) (hB' : HB w k' U' vs') (hz' : vs'.length = sz)
    (hR : R (.tuple #[.agg vs.toArray, .agg vs'.toArray]) w) : QJ n dx0 (bodyPost P fn (RetR R)) .ret l w := .mk fun a ha => by
  subst hz
  have h1 := run_loadCells_list (P := P) (w := w) ⟨k, 0, none⟩ vs hB.cells
  have h2 := run_loadCells_list (P := P) (w := w) ⟨k', 0, none⟩ vs' hB'.cells
  rw [hz'] at h2
  exact ⟨ha.defers, .tuple #[.agg vs.toArray, .agg vs'.toArray], by simp [results, hr, Array.getD_eq_getD_getElem?, ha.has _ _ hl, ha.has _ _ hl', asAddr, loadVar, h.agg, h.size, h1, h2], _, rfl, hR⟩
end
section
variable {P : Program} {fn : Func} {R : Value → List Ck → Prop} {n : Nat} {l : List (Nat × Value)} {w0 : World} {H H' : List Ck}
theorem s_retcc {t t' : Tmp} {T : TypeId} {sz : Nat} [h : AgT P T sz] {k U k' U' : Nat} {vs vs' : List Value} {H1 H2 : List Ck} (hr : fn.results = #[.cell t T, .cell t' T]) (hl : look l t = some (.pointer (some ⟨k, 0, none⟩))) (hl' : look l t' = some (.pointer (some ⟨k', 0, none⟩))) (hB : At (.hb k U vs) (.hb k U vs) H H1) (hz : vs.length = sz) (hB' : At (.hb k' U' vs') (.hb k' U' vs') H H2) (hz' : vs'.length = sz)
    (hR : R (.tuple #[.agg vs.toArray, .agg vs'.toArray]) H') (he : Ent H H' := by first | exact entq | exact ent) : SQ n dx0 (bodyPost P fn (RetR (RS w0 R))) .ret l w0 H := .mk fun _ hs => q_retcc hr hl hl' (Sat.hbOf hB hs) hz (Sat.hbOf hB' hs) hz' ⟨H', hR, hs.ent he⟩
end
end Go.Sx
namespace Go.Sx
open Go Go.Proofs
set_option maxRecDepth 10000
variable {w0 : World} {H : List Ck}
theorem st_app {A B H : List Ck} : Ent (.star (A ++ B) :: H) (A ++ .star B :: H) := Ent.open (by rw [List.append_assoc]; exact Ent.appL (Ent.star Ent.refl))
theorem st_app' {A B H : List Ck} : Ent (A ++ .star B :: H) (.star (A ++ B) :: H) := Ent.star (by rw [List.append_assoc]; exact Ent.appL (Ent.open Ent.refl))
theorem st_one {B : List Ck} : Ent [.star B] B := Ent.open (by rw [List.append_nil]; exact Ent.refl)
theorem st_one' {B : List Ck} : Ent B [.star B] := Ent.star (by rw [List.append_nil]; exact Ent.refl)
theorem st_sw {A B H : List Ck} : Ent (.star A :: .star B :: H) (.star B :: .star A :: H) := Ent.perm (.swap _ _ _)
theorem FnS.post {P : Program} {H : List Ck} {k : FuncId} {args : Array Value} {R R' : Value → List Ck → Prop} (h : FnS P w0 H k args R) (hm : ∀ v K, R v K → ∃ K', R' v K' ∧ Ent K K') : FnS P w0 H k args R' := fun w hs => by
  refine Calls.mono (h w hs) ?_
  rintro e w' ⟨v, rfl, K, h1, h2⟩
  obtain ⟨K', h3, h4⟩ := hm v K h1
  exact ⟨v, rfl, K', h3, h2.ent h4⟩
theorem stars_append' {β : Type} {f : β → List Ck} {F G : List β} {H : List Ck} : Ent (stars f F :: stars f G :: H) (stars f (F ++ G) :: H) := by
  unfold stars
  rw [List.flatMap_append]
  exact Ent.open st_app'
abbrev yv (ll : Nat) : Value := .func (.yield ll) #[] #[]
/-- What is handed to yield: whose bytes it is in, told; what is then known of the consumer. -/
def TellS (P : Program) (w0 : World) (o : Bool) (g0 : Ck) (gm : Nat → Ck) (g1 g2 : Ck) (k : Nat) (cap : List Value) (L : List (Bs × Bs)) : Prop :=
  ∀ (ll : Nat) (φ : Nat → List Ck → Prop) (fin : List Ck → Prop),
    (∀ (i : Nat) (x : KV) (u : Nat) (K T E : List Ck), L[i]? = some x.p → φ i K → (o = true → T = oKVs x) → REe w0 (.star T :: E) x →
      YldS P w0 (.star T :: .star K :: gm u :: E) ll #[.slice x.ka x.k.length x.kc, .slice x.va x.v.length x.vc] (fun v K' => ∃ K2, (v = .bool true ∧ φ (i + 1) K2 ∨ v = .bool false ∧ fin K2) ∧ K' = .star K2 :: gm u :: E)) →
    ∀ K, φ 0 K → FnS P w0 [g0, .star K] k (yv ll :: cap).toArray (fun v K' => v = .tuple #[] ∧ ∃ K2, φ L.length K2 ∧ K' = [g1, .star K2] ∨ fin K2 ∧ K' = [g2, .star K2])
/-- A value that tells so. -/
def TvF (P : Program) (w0 : World) (o : Bool) (g0 : Ck) (gm : Nat → Ck) (g1 g2 : Ck) (v : Value) (L : List (Bs × Bs)) : Prop := ∃ k cap, v = .func (.func k) #[] (List.toArray cap) ∧ FnT P k ∧ TellS P w0 o g0 gm g1 g2 k cap L
/-- Such a value, or nil. -/
def TvS (P : Program) (w0 : World) (o : Bool) (g0 : Ck) (gm : Nat → Ck) (g1 g2 : Ck) (v : Value) (L : List (Bs × Bs)) : Prop := v = .nilFunc ∧ L = [] ∧ g1 = g0 ∨ TvF P w0 o g0 gm g1 g2 v L
theorem copied_s {a : Option Addr} {c : Nat} {xs : Bs} (ha : RBy w0 H a c xs) (hx : xs.length ≤ 140737488355328) : FnS Tryz.prog w0 H 39 #[.slice a xs.length c] (fun v H' => ∃ a', v = .slice a' xs.length xs.length ∧ H' = ob a' xs.length xs :: H) := by
  refine fns_enter Tryz.func39 rfl rfl rfl ?_
  refine sx ?_
  refine s_call rfl (bclone_s ha hx) ?_
  rintro _ _ ⟨a1, c1, rfl, rfl⟩
  refine ⟨chk_seq, ?_⟩
  refine s_call rfl clip_s ?_
  rintro _ _ ⟨rfl, rfl⟩
  refine ⟨chk_seq, ?_⟩
  refine sx ?_
  exact s_ret1 rfl rfl ⟨a1, rfl, rfl⟩
theorem tell_none {o : Bool} {g g2 : Ck} {gm : Nat → Ck} : TellS Tryz.prog w0 o g gm g g2 70 [] [] := by
  intro ll φ fin _ K h
  refine fns_enter Tryz.func70 rfl rfl rfl ?_
  refine sx ?_
  exact s_end0 rfl ⟨rfl, K, .inl ⟨h, rfl⟩⟩
theorem of_s {o : Bool} {g0 g1 g2 : Ck} {gm : Nat → Ck} {v : Value} {L : List (Bs × Bs)} (h : TvS Tryz.prog w0 o g0 gm g1 g2 v L) : FnS Tryz.prog w0 H 37 #[v] (fun v' H' => TvF Tryz.prog w0 o g0 gm g1 g2 v' L ∧ H' = H) := by
  refine fns_enter Tryz.func37 rfl rfl rfl ?_
  refine sx ?_
  rcases h with ⟨rfl, rfl, rfl⟩ | ⟨k, cap, rfl, hk, ht⟩
  · refine sx ?_
    exact s_ret1 rfl rfl ⟨⟨70, [], rfl, inferInstance, tell_none⟩, rfl⟩
  · refine sx ?_
    exact s_ret1 rfl rfl ⟨⟨k, cap, rfl, hk, ht⟩, rfl⟩
end Go.Sx
namespace Go.Sx
open Go Go.Proofs
set_option maxRecDepth 10000
variable {w0 : World} {H : List Ck}
@[reducible] def ofL (b : Nat) (a : Option Addr) (c : Nat) (out : List KV) : List Ck := [.hb b 22 [.slice a out.length c], ol 51 a c out, stars oKVs out]
@[reducible] def ofG (b : Nat) (a : Option Addr) (c : Nat) (out : List KV) : Ck := .star (ofL b a c out)
/-- Small bytes. -/
def SmL (L : List (Bs × Bs)) : Prop := ∀ p ∈ L, p.1.length ≤ 140737488355328 ∧ p.2.length ≤ 140737488355328
theorem SmL.kv {out : List KV} {L : List (Bs × Bs)} (h : SmL L) (ho : out.map KV.p = L) {x : KV} (hx : x ∈ out) : x.k.length ≤ 140737488355328 ∧ x.v.length ≤ 140737488355328 := by
  subst ho
  exact h x.p (List.mem_map_of_mem hx)
theorem ent_oKVs {x : KV} {H R1 R2 H' : List Ck} (h1 : Rm (ob x.ka x.kc x.k) H R1) (h2 : Rm (ob x.va x.vc x.v) R1 R2) (h : Ent R2 H') : Ent H (.star (oKVs x) :: H') :=
  Ent.star (L := oKVs x) (Ent.cons h1 (Ent.cons h2 h))
theorem REe.of {x : KV} : REe w0 (.star (oKVs x) :: H) x := REe.ent (H' := oKVs x ++ H) ⟨RBy.hd, RBy.hd.tl⟩ (Ent.open Ent.refl)
structure OfI where
  i : Nat
  K : List Ck
set_option maxHeartbeats 4000000 in
theorem of_tell {b c : Nat} {a : Option Addr} {out : List KV} (hsm : SmL (out.map KV.p)) : TellS Tryz.prog w0 true (ofG b a c out) (fun _ => ofG b a c out) (ofG b a c out) (ofG b a c out) 43 [.pointer (some ⟨b, 0, none⟩)] (out.map KV.p) := by
  intro ll φ fin hy K h0
  refine FnS.ent (H' := ofL b a c out ++ [.star K]) ?_ (Ent.open Ent.refl)
  refine fns_enter Tryz.func43 rfl rfl rfl ?_
  refine s_kn (Kn.sl (xs := out) (RSl.hd.tl)) fun ⟨l1, l2⟩ => ?_
  simp only [maxLen] at l2
  refine sx ?_
  refine s_loop (fun q : OfI => [(0, yv ll), (5, .slice a out.length c), (6, .int .i64 out.length), (7, .int .i64 q.i)]) (fun q => .star q.K :: ofL b a c out) (fun q => q.i ≤ out.length ∧ φ q.i q.K) (fun q => out.length - q.i) ⟨0, K⟩ ⟨Nat.zero_le _, h0⟩ ?_
  rintro ⟨i, K1⟩ ⟨h1, h2⟩
  simp only at h1 h2 ⊢
  refine sx ?_
  refine s_if rfl (fun t1 => ?_) (fun t1 => ?_)
  · obtain ⟨e, he⟩ := get_lt out i (by omega)
    have hst : REe w0 (stars oKVs out :: []) e := REe.st (List.mem_of_getElem? he)
    obtain ⟨y1, y2⟩ := hsm.kv rfl (List.mem_of_getElem? he)
    refine sx ?_
    refine s_alloc fun b7 => ?_
    refine sx ?_
    have hk : RBy w0 (.hb b7 51 (Cel.f e) :: .star K1 :: ofL b a c out) e.ka e.kc e.k := hst.k.tl.tl.tl.tl
    have hv : RBy w0 (.hb b7 51 (Cel.f e) :: .star K1 :: ofL b a c out) e.va e.vc e.v := hst.v.tl.tl.tl.tl
    refine sx ?_; refine s_drR (.star K1) (by exact rm) (.one true 0 (.one true 1 (.one true 2 (.one true 4 (.one true 5 (.one false 3 (.one false 6 (.one false 7 (.one true 8 .nil))))))))) mixed (by kernel_rfl) ?_; refine sx ?_
    refine s_call rfl (copied_s (xs := e.k) (by exact rby) y1) ?_
    rintro _ _ ⟨ka, rfl, rfl⟩
    refine ⟨chk_held (by exact ent), ?_⟩
    refine sx ?_
    refine s_call rfl (copied_s (xs := e.v) (by exact rby) y2) ?_
    rintro _ _ ⟨va, rfl, rfl⟩
    refine ⟨chk_held (by exact ent), ?_⟩
    refine sx ?_
    refine s_yld rfl rfl ((hy i ⟨ka, e.k.length, e.k, va, e.v.length, e.v⟩ 0 K1 _ [.hb b7 51 (Cel.f e)] (get_map (f := KV.p) (x := e) he) h2 (fun _ => rfl) REe.of).ent ?_) ?_
    · refine ent_oKVs (by exact rm) (by exact rm) ?_
      refine Ent.cons (by exact rm) ?_
      exact Ent.star (L := ofL b a c out) (by exact ent)
    rintro _ _ ⟨K2, hK2, rfl⟩
    have hop : Ent (.star K2 :: ofG b a c out :: [.hb b7 51 (Cel.f e)]) (.star K2 :: .hb b7 51 (Cel.f e) :: ofL b a c out) := Ent.head (Ent.open (by exact ent))
    refine ⟨chk_held (hop.trans (by exact ent)), ?_⟩
    refine s_entL _ hop ?_
    rcases hK2 with ⟨rfl, hK2⟩ | ⟨rfl, hK2⟩
    · refine sx ?_
      exact s_again ⟨i + 1, K2⟩ ⟨by simp only; omega, hK2⟩ (by simp only; omega)
    · refine sx ?_
      exact s_ret0 rfl ⟨rfl, K2, .inr ⟨hK2, rfl⟩⟩ (Ent.star (L := ofL b a c out) (by exact ent))
  obtain rfl : i = out.length := by omega
  refine sx ?_
  exact s_end0 rfl ⟨rfl, K1, .inl ⟨by simpa using h2, rfl⟩⟩ (Ent.star (L := ofL b a c out) (by exact ent))
structure OfJ where
  i : Nat
  a : Option Addr
  c : Nat
  os : List KV
set_option maxHeartbeats 4000000 in
theorem Of_s {a : Option Addr} {c : Nat} {es : List KV} (hx : RSl w0 H a c es) (hr : ∀ e ∈ es, REe w0 H e) (hl : es.length ≤ 549755813888) (hsm : SmL (es.map KV.p)) :
    FnS Tryz.prog w0 H 19 #[.slice a es.length c] (fun v H' => ∃ b a' c' out, v = .func (.func 43) #[] #[.pointer (some ⟨b, 0, none⟩)] ∧ (out : List KV).map KV.p = es.map KV.p ∧ H' = ofG b a' c' out :: H) := by
  refine fns_enter Tryz.func19 rfl rfl rfl ?_
  refine sx ?_
  refine s_alloc fun b3 => ?_
  refine sx ?_
  refine s_loop (fun q : OfJ => [(3, .pointer (some ⟨b3, 0, none⟩)), (6, .slice a es.length c), (7, .int .i64 es.length), (8, .int .i64 q.i)]) (fun q => .hb b3 22 [.slice q.a q.os.length q.c] :: ol 51 q.a q.c q.os :: stars oKVs q.os :: H) (fun q => q.i ≤ es.length ∧ q.os.map KV.p = (es.map KV.p).take q.i) (fun q => es.length - q.i) ⟨0, none, 0, []⟩ ⟨Nat.zero_le _, by simp⟩ ?_ (he := Ent.head (Ent.nilS.trans (Ent.head stars_nil)))
  rintro ⟨i, oa, oc, os⟩ ⟨h1, h2⟩
  simp only at h1 h2 ⊢
  have hol : os.length = i := by
    have := congrArg List.length h2
    simp only [List.length_map, List.length_take] at this
    omega
  refine sx ?_
  refine s_if rfl (fun t1 => ?_) (fun t1 => ?_)
  · obtain ⟨e, he⟩ := get_lt es i (by omega)
    have her := hr e (List.mem_of_getElem? he)
    obtain ⟨y1, y2⟩ := hsm.kv rfl (List.mem_of_getElem? he)
    have hk := her.k
    have hv := her.v
    refine sx ?_
    refine s_alloc fun b5 => ?_
    refine sx ?_
    refine s_drU (.hb b5 51 (Cel.f e) :: .hb b3 22 [.slice oa os.length oc] :: H) (.one true 0 (.one true 1 (.one true 2 (.one true 4 (.one true 5 (.one false 3 (.one false 6 (.one true 7 (.one false 8 (.one false 9 .nil)))))))))) (.one false 10 .nil) [10] #[true, true, true, true, true, true, true, true, true, true, false] mixed (by kernel_rfl) ?_
    refine sx ?_
    refine s_call rfl (copied_s (xs := e.k) (by exact rby) y1) ?_
    rintro _ _ ⟨ka, rfl, rfl⟩
    refine ⟨chk_held (by exact ent), ?_⟩
    refine sx ?_
    refine s_call rfl (copied_s (xs := e.v) (by exact rby) y2) ?_
    rintro _ _ ⟨va, rfl, rfl⟩
    refine ⟨chk_held (by exact ent), ?_⟩
    refine sx ?_
    refine s_bsl [(⟨ka, e.k.length, e.k, va, e.v.length, e.v⟩ : KV)] rfl rfl fun b42 => ?_
    refine s_app (xs := os) (ys := [(⟨ka, e.k.length, e.k, va, e.v.length, e.v⟩ : KV)]) ?_ (hby := by simp only [List.length_cons, List.length_nil]; omega)
    intro a4 c4
    refine sx ?_
    refine s_bar ?_
    refine sx ?_
    refine s_again ⟨i + 1, a4, c4, os ++ [⟨ka, e.k.length, e.k, va, e.v.length, e.v⟩]⟩ ⟨by simp only; omega, ?_⟩ (by simp only; omega) (he := ?_)
    · simp only [List.map_append]
      rw [h2, snocT (get_map (f := KV.p) he)]
      rfl
    · refine Ent.cons (by exact rm) (Ent.cons (by exact rm) ?_)
      exact Ent.trans (H' := ob ka e.k.length e.k :: ob va e.v.length e.v :: stars oKVs os :: H) (by exact ent) (stars_snoc (f := oKVs) (s := ⟨ka, e.k.length, e.k, va, e.v.length, e.v⟩))
  obtain rfl : i = es.length := by omega
  rw [List.take_of_length_le (by simp)] at h2
  refine sx ?_
  exact s_ret1 rfl rfl ⟨b3, oa, oc, os, rfl, h2, rfl⟩ (Ent.star (L := ofL b3 oa oc os) (by exact ent))
end Go.Sx

