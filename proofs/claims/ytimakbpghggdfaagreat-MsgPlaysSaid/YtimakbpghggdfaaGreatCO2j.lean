/- Part of a proof: several parts of a walk, one behind the other. -/
import Derived.Test.YtimakbpghggdfaaGreatCKB
namespace Go.Sx
open Go
theorem get_map {α β : Type} {f : α → β} {l : List α} {i : Nat} {x : α} (h : l[i]? = some x) : (l.map f)[i]? = some (f x) := by simp [h]
theorem snocT {α : Type} {l : List α} {i : Nat} {e : α} (h : l[i]? = some e) : l.take (i + 1) = l.take i ++ [e] := by
  obtain ⟨hi, rfl⟩ := List.getElem?_eq_some_iff.1 h
  exact (List.take_append_getElem hi).symm
theorem dropG {α : Type} {l : List α} {i : Nat} {e : α} (h : l[i]? = some e) : l.drop i = e :: l.drop (i + 1) := by
  obtain ⟨hi, rfl⟩ := List.getElem?_eq_some_iff.1 h
  exact List.drop_eq_getElem_cons hi
section
variable {w0 : World} {H : List Ck}
theorem s_rwQ {n : Nat} {ds : Dx} {Q : Exit → Act → World → Prop} {e : Exit} {l : List (Nat × Value)} {t : Nat} {v v' : Value} (h : look l t = some v) (he : v = v') (k : SQ n ds Q e ((t, v') :: l) w0 H) : SQ n ds Q e l w0 H := by
  subst he
  refine .mk fun w hs => .mk fun a ha => (k.out w hs).out a ⟨ha.size, ha.defers, fun t' u ht => ?_⟩
  simp only [look] at ht
  by_cases e : t = t'
  · subst e; simp at ht; subst ht; exact ha.has _ _ h
  · have hb : Nat.beq t t' = false := by rw [← Bool.not_eq_true, Nat.beq_eq]; exact e
    rw [hb] at ht
    exact ha.has _ u ht
end
section
variable {fn : Func} {R : Value → World → Prop} {P : Program} {n : Nat} {l : List (Nat × Value)} {w : World}
/-- Two structs are returned. -/
theorem q_retcc {t t' : Tmp} {T : TypeId} {sz : Nat} [h : AgT P T sz] {k U k' U' : Nat} {vs vs' : List Value} (hr : fn.results = #[.cell t T, .cell t' T]) (hl : look l t = some (.pointer (some ⟨k, 0, none⟩))) (hl' : look l t' = some (.pointer (some ⟨k', 0, none⟩))) (hB : HB w k U vs) (hz : vs.length = sz) (hB' : HB w k' U' vs') (hz' : vs'.length = sz)
    (hR : R (.tuple #[.agg vs.toArray, .agg vs'.toArray]) w) : QJ n dx0 (bodyPost P fn (RetR R)) .ret l w := .mk fun a ha => by
  subst hz
  have h1 := run_loadCells_list (P := P) (w := w) ⟨k, 0, none⟩ vs hB.cells
  have h2 := run_loadCells_list (P := P) (w := w) ⟨k', 0, none⟩ vs' hB'.cells
  rw [hz'] at h2
  exact ⟨ha.defers, .tuple #[.agg vs.toArray, .agg vs'.toArray], by simp [results, hr, Array.getD_eq_getD_getElem?, ha.has _ _ hl, ha.has _ _ hl', asAddr, loadVar, h.agg, h.size, h1, h2], _, rfl, hR⟩
end
section
variable {P : Program} {fn : Func} {R : Value → List Ck → Prop} {n : Nat} {l : List (Nat × Value)} {w0 : World} {H H' : List Ck}
theorem s_retcc {t t' : Tmp} {T : TypeId} {sz : Nat} [h : AgT P T sz] {k U k' U' : Nat} {vs vs' : List Value} {H1 H2 : List Ck} (hr : fn.results = #[.cell t T, .cell t' T]) (hl : look l t = some (.pointer (some ⟨k, 0, none⟩))) (hl' : look l t' = some (.pointer (some ⟨k', 0, none⟩))) (hB : At (.hb k U vs) (.hb k U vs) H H1) (hz : vs.length = sz) (hB' : At (.hb k' U' vs') (.hb k' U' vs') H H2) (hz' : vs'.length = sz)
    (hR : R (.tuple #[.agg vs.toArray, .agg vs'.toArray]) H') (he : Ent H H' := by first | exact entq | exact ent) : SQ n dx0 (bodyPost P fn (RetR (RS w0 R))) .ret l w0 H := .mk fun _ hs => q_retcc hr hl hl' (Sat.hbOf hB hs) hz (Sat.hbOf hB' hs) hz' ⟨H', hR, hs.ent he⟩
end
end Go.Sx
namespace Go.Sx
open Go Go.Proofs
set_option maxRecDepth 10000
theorem common_go (w : World) (a a' : Option Addr) (c c' : Nat) (xs ys : List UInt8) (ha : By w a c xs) (hb : By w a' c' ys) :
    Fn Tryz.prog 46 #[.slice a xs.length c, .slice a' ys.length c'] w (fun v w' => v = .int .i64 (common xs ys) ∧ Ex w w') := by
  have l1 := ha.len
  have l2 := hb.len
  refine fn_enter Tryz.func46 rfl rfl rfl ?_
  refine sxo ?_
  refine c_loop (fun k : Nat => [(0, .slice a xs.length c), (1, .slice a' ys.length c'), (5, .int .i64 ((min xs.length ys.length : Nat) : Int)), (12, .int .i64 ((min xs.length ys.length : Nat) : Int)), (13, .int .i64 k)])
    (fun k w1 => Ex w w1 ∧ k ≤ xs.length ∧ k ≤ ys.length ∧ ∀ i, i < k → xs.getD i 0 = ys.getD i 0) (fun k => xs.length - k) 0 (by exact ⟨rfl, rfl, rfl, rfl, rfl, trivial⟩) ⟨Ext.refl w, Nat.zero_le _, Nat.zero_le _, fun i hi => absurd hi (by omega)⟩ ?_
  rintro k w1 ⟨hE, hk1, hk2, hk⟩
  refine sxo ?_
  refine c_if rfl (fun hlt => ?_) (fun hge => ?_)
  · obtain ⟨ad, rfl⟩ := ha.some (by omega)
    obtain ⟨ad', rfl⟩ := hb.some (by omega)
    have ha1 := ha.ex hE
    have hb1 := hb.ex hE
    refine sxo ?_
    refine c_dr (fun _ => False) (.one true 0 (.one true 1 (.one true 2 (.one true 3 (.one true 4 (.one true 5 (.one true 6 (.one true 7 (.one true 8 .nil))))))))) mixed (by kernel_rfl) ?_
    intro w2 hE2 hh
    refine sxo ?_
    refine c_ifn rfl (fun hne => ?_) (fun heq => ?_)
    · refine sxo ?_
      refine q_ret1 rfl rfl ⟨?_, hE.trans hE2⟩
      rw [common_eq xs ys k (by omega) (by omega) hk (.inr (.inr hne))]
    · refine sxo ?_
      refine q_again (k + 1) ⟨rfl, rfl, rfl, rfl, rfl, trivial⟩ ⟨hE.trans hE2, by omega, by omega, fun i hi => ?_⟩ (by omega)
      rcases Nat.lt_or_eq_of_le (Nat.lt_succ_iff.1 hi) with h | rfl
      · exact hk i h
      · exact heq
  · refine sxo ?_
    refine q_ret1 rfl rfl ⟨?_, hE⟩
    rw [common_eq xs ys (min xs.length ys.length) (by omega) (by omega) (fun i hi => hk i (by omega)) (by omega)]

theorem compare_go (w : World) (a a' : Option Addr) (c c' : Nat) (xs ys : List UInt8) (ha : By w a c xs) (hb : By w a' c' ys) :
    Fn Tryz.prog 15 #[.slice a xs.length c, .slice a' ys.length c'] w (fun v w' => v = .int .i64 (cmp xs ys) ∧ Ex w w') := by
  have l1 := ha.len
  have l2 := hb.len
  have hcl := common_le xs ys
  refine fn_enter Tryz.func15 rfl rfl rfl ?_
  refine sxo ?_
  refine l_call rfl rfl rfl rfl (common_go w a a' c c' xs ys ha hb) ?_
  rintro _ w2 ⟨rfl, hE2⟩
  refine ⟨trivial, ?_⟩
  have ha2 := ha.ex hE2
  have hb2 := hb.ex hE2
  refine sxo ?_
  have hc := cmp_common xs ys
  refine l_if rfl (fun h1 => ?_) (fun h1 => ?_)
  · have h1' : common xs ys = xs.length := by omega
    refine sxo ?_
    refine c_if rfl (fun h2 => ?_) (fun h2 => ?_)
    · have h2' : common xs ys = ys.length := by omega
      refine sxo ?_
      exact q_ret1 rfl rfl ⟨by rw [hc, if_pos ⟨h1', h2'⟩], hE2⟩
    · refine sxo ?_
      refine c_if rfl (fun _ => ?_) (fun h3 => absurd h1 h3)
      refine sxo ?_
      exact q_ret1 rfl rfl ⟨by rw [hc, if_neg (by omega), if_pos h1'], hE2⟩
  · have h1' : ¬ common xs ys = xs.length := by omega
    refine sxo ?_
    refine c_if rfl (fun h3 => absurd h3 h1) (fun _ => ?_)
    refine sxo ?_
    refine c_dr (fun _ => False) (.one true 0 (.one true 1 (.one true 2 (.one true 3 (.one true 4 (.one true 5 (.one true 6 (.one true 7 (.one true 8 (.one true 9 (.one true 10 (.one true 11 (.one true 12 (.one true 13 (.one true 14 (.one true 15 .nil)))))))))))))))) mixed (by kernel_rfl) ?_
    intro w3 hE3 hh
    refine sxo ?_
    refine l_if rfl (fun h2 => ?_) (fun h2 => ?_)
    · refine sxo ?_
      exact q_ret1 rfl rfl ⟨by rw [hc, if_neg (by omega), if_neg h1', if_pos (.inl (by omega))], hE2.trans hE3⟩
    · obtain ⟨ad, rfl⟩ := ha.some (by omega)
      obtain ⟨ad', rfl⟩ := hb.some (by omega)
      refine sxo ?_
      refine c_if rfl (fun h4 => ?_) (fun h4 => ?_)
      · refine sxo ?_
        exact q_ret1 rfl rfl ⟨by rw [hc, if_neg (by omega), if_neg h1', if_pos (.inr h4)], hE2.trans hE3⟩
      · refine sxo ?_
        exact q_ret1 rfl rfl ⟨by rw [hc, if_neg (by omega), if_neg h1', if_neg (by rintro (h | h); omega; exact h4 h)], hE2.trans hE3⟩

/-- A range, as a struct's cells. -/
structure Rg where
  la : Option Addr
  lc : Nat
  lo : Bs
  ha : Option Addr
  hc : Nat
  hi : Bs
  all : Bool
def Rg.cells (r : Rg) : List Value := [.slice r.la r.lo.length r.lc, .slice r.ha r.hi.length r.hc, .bool r.all]
section
variable {w0 : World} {H : List Ck}
@[reducible] def ob (a : Option Addr) (c : Nat) (xs : Bs) : Ck := ol 5 a c xs
abbrev I64 (x : Int) : Prop := -9223372036854775808 ≤ x ∧ x ≤ 9223372036854775807
variable {a a' : Option Addr} {c c' : Nat} {xs ys : Bs}
theorem compare_s (ha : RBy w0 H a c xs) (hb : RBy w0 H a' c' ys) : FnV Tryz.prog w0 H 15 #[.slice a xs.length c, .slice a' ys.length c'] (.int .i64 (cmp xs ys)) :=
  FnV.of fun w hs => compare_go w _ _ _ _ _ _ (ha w hs) (hb w hs)
end
end Go.Sx
namespace Go.Sx
open Go Go.Proofs
set_option maxRecDepth 10000
instance celRg : Cel Rg := ⟨3, fun r => r.cells, fun _ => rfl, fun _ => rfl, by decide⟩
instance : ElT Tryz.prog 53 Rg := ⟨trivial⟩
abbrev T3 := Bs × Bs × Bool
abbrev Rg.d (r : Rg) : T3 := (r.lo, r.hi, r.all)
def emR (d : T3) : Bool := !d.2.2 && decide (cmp d.2.1 d.1 ≤ 0)
def beR (a b : T3) : Bool := !a.2.2 && (b.2.2 || decide (cmp a.2.1 b.2.1 < 0))
abbrev t30 : T3 := ([], [], false)
def foR (d : T3) : T3 := if emR d = true then t30 else if d.2.2 = true then (d.1, [], true) else d
def meR (a b : T3) : T3 := if (emR a || emR b) = true then t30 else foR (if 0 < cmp b.1 a.1 then b.1 else a.1, if beR b a = true then b.2.1 else a.2.1, if beR b a = true then b.2.2 else a.2.2)
abbrev rg0 : Rg := ⟨none, 0, [], none, 0, [], false⟩
variable {w0 : World} {H : List Ck}
structure RRg (w0 : World) (H : List Ck) (r : Rg) : Prop where
  lo : RBy w0 H r.la r.lc r.lo
  hi : RBy w0 H r.ha r.hc r.hi
theorem RRg.tl {r : Rg} {d : Ck} (h : RRg w0 H r) : RRg w0 (d :: H) r := ⟨h.lo.tl, h.hi.tl⟩
theorem RRg.ent {r : Rg} {H' : List Ck} (h : RRg w0 H' r) (e : Ent H H') : RRg w0 H r := ⟨h.lo.ent e, h.hi.ent e⟩
@[reducible] def oR (r : Rg) : Ck := .star [ob r.la r.lc r.lo, ob r.ha r.hc r.hi]
theorem RRg.oR {r : Rg} : RRg w0 (oR r :: H) r := ⟨RBy.ent RBy.hd (Ent.mem' (c := ob r.la r.lc r.lo) (by simp)), RBy.ent RBy.hd (Ent.mem' (c := ob r.ha r.hc r.hi) (by simp))⟩
theorem rrg {r : Rg} (h : RRg w0 H r := by (repeat (first | assumption | exact RRg.oR | apply RRg.tl)); first | done | fail) : RRg w0 H r := h
theorem Ent.oR {r : Rg} {R1 R2 H' : List Ck} (h1 : Rm (ob r.la r.lc r.lo) H R1) (h2 : Rm (ob r.ha r.hc r.hi) R1 R2) (h : Ent R2 H') : Ent H (Sx.oR r :: H') := by
  refine Ent.trans (H' := ob r.la r.lc r.lo :: ob r.ha r.hc r.hi :: H') ?_ (Ent.star (L := [ob r.la r.lc r.lo, ob r.ha r.hc r.hi]) Ent.refl)
  exact Ent.cons h1 (Ent.cons h2 h)
theorem hnilR {H : List Ck} : Ent H (oR rg0 :: H) := Ent.nilS.trans ((Ent.head Ent.nilS).trans (Ent.oR (r := rg0) Rm.hd Rm.hd Ent.refl))
theorem bclone_s {a : Option Addr} {c : Nat} {xs : Bs} (ha : RBy w0 H a c xs) (hx : xs.length ≤ 140737488355328) : FnS Tryz.prog w0 H 77 #[.slice a xs.length c] (fun v H' => ∃ a' c', v = .slice a' xs.length c' ∧ H' = ob a' c' xs :: H) := by
  refine fns_enter Tryz.func77 rfl rfl rfl ?_
  refine sx ?_
  refine s_cond rfl (fun t1 => ?_) (fun t1 => ?_)
  · refine s_kn (φ := xs = []) (fun w hw => ?_) fun e => ?_
    · have h := ha w hw
      have h1 := h.nil (by simpa using t1)
      exact List.eq_nil_of_length_eq_zero (by have := h.le; omega)
    subst e
    refine sx ?_
    exact s_ret1 rfl rfl ⟨none, 0, rfl, rfl⟩ Ent.nilS
  refine sx ?_
  refine s_bsl ([] : List UInt8) rfl rfl fun b1 => ?_
  refine sx ?_
  refine s_app (ys := xs) ?_
  intro a1 c1
  refine sx ?_
  exact s_ret1 rfl rfl ⟨a1, c1, rfl, rfl⟩
theorem clip_s {a : Option Addr} {c : Nat} {xs : Bs} : FnS Tryz.prog w0 (ob a c xs :: H) 72 #[.slice a xs.length c] (fun v H' => v = .slice a xs.length xs.length ∧ H' = ob a xs.length xs :: H) := by
  refine fns_enter Tryz.func72 rfl rfl rfl ?_
  refine s_kn (Kn.by (RBy.hd : RBy w0 (ob a c xs :: H) a c xs)) fun l1 => ?_
  refine sx ?_
  refine s_yS rfl rfl rfl (y_slU rfl rfl rfl (by omega)) ?_
  refine sx ?_
  exact s_ret1 rfl rfl ⟨rfl, rfl⟩ (Ent.clip (Nat.le_refl _) (by omega))
theorem ocopied_s {a : Option Addr} {c : Nat} {xs : Bs} (ha : RBy w0 H a c xs) (hx : xs.length ≤ 140737488355328) : FnS Tryz.prog w0 H 87 #[.slice a xs.length c] (fun v H' => ∃ a', v = .slice a' xs.length xs.length ∧ H' = ob a' xs.length xs :: H) := by
  refine fns_enter Tryz.func87 rfl rfl rfl ?_
  refine sx ?_
  refine s_call rfl (bclone_s ha hx) ?_
  rintro _ _ ⟨a1, c1, rfl, rfl⟩
  refine ⟨chk_seq, ?_⟩
  refine s_call rfl clip_s ?_
  rintro _ _ ⟨rfl, rfl⟩
  refine ⟨chk_seq, ?_⟩
  refine sx ?_
  exact s_ret1 rfl rfl ⟨a1, rfl, rfl⟩
theorem oempty_s {r : Rg} (hr : RRg w0 H r) : FnV Tryz.prog w0 H 55 #[.agg r.cells.toArray] (.bool (emR r.d)) := by
  have h1 := hr.lo
  have h2 := hr.hi
  obtain ⟨la, lc, lo, ha, hc, hi, all⟩ := r
  refine fns_enter Tryz.func55 rfl rfl rfl ?_
  refine sx ?_
  refine s_boxA rfl fun b => ?_
  refine sx ?_
  cases all
  · refine sx ?_
    refine s_callV rfl (compare_s (by exact rby) (by exact rby)) ?_
    refine sx ?_
    exact s_ret1 rfl rfl ⟨by simp [emR], rfl⟩
  · refine sx ?_
    exact s_ret1 rfl rfl ⟨by simp [emR], rfl⟩
theorem obelow_s {r q : Rg} (hr : RRg w0 H r) (hq : RRg w0 H q) : FnV Tryz.prog w0 H 56 #[.agg r.cells.toArray, .agg q.cells.toArray] (.bool (beR r.d q.d)) := by
  have h2 := hr.hi
  have h4 := hq.hi
  obtain ⟨la, lc, lo, ha, hc, hi, all⟩ := r
  obtain ⟨la', lc', lo', ha', hc', hi', all'⟩ := q
  refine fns_enter Tryz.func56 rfl rfl rfl ?_
  refine sx ?_
  refine s_boxA rfl fun b => ?_
  refine sx ?_
  refine s_boxA rfl fun b' => ?_
  refine sx ?_
  cases all
  · cases all'
    · refine sx ?_
      refine s_callV rfl (compare_s (by exact rby) (by exact rby)) ?_
      refine sx ?_
      exact s_ret1 rfl rfl ⟨by simp [beR], rfl⟩
    · refine sx ?_
      exact s_ret1 rfl rfl ⟨by simp [beR], rfl⟩
  · refine sx ?_
    exact s_ret1 rfl rfl ⟨by simp [beR], rfl⟩
abbrev FoR (d : T3) (H : List Ck) : Value → List Ck → Prop := fun v H' => ∃ r' : Rg, v = .agg r'.cells.toArray ∧ r'.d = d ∧ H' = oR r' :: H
theorem oform_s {r : Rg} (hr : RRg w0 H r) (hl : r.lo.length ≤ 140737488355328 ∧ r.hi.length ≤ 140737488355328) : FnS Tryz.prog w0 H 57 #[.agg r.cells.toArray] (FoR (foR r.d) H) := by
  have h1 := hr.lo
  have h2 := hr.hi
  have hem := oempty_s (w0 := w0) (H := H) hr
  obtain ⟨la, lc, lo, ha, hc, hi, all⟩ := r
  simp only at h1 h2 hl
  refine fns_enter Tryz.func57 rfl rfl rfl ?_
  refine sx ?_
  refine s_boxA rfl fun b1 => ?_
  refine sx ?_
  refine s_alloc fun b2 => ?_
  refine sx ?_
  refine s_alloc fun b3 => ?_
  refine sx ?_
  refine s_callV rfl (oempty_s (r := ⟨la, lc, lo, ha, hc, hi, all⟩) (by exact rrg)) ?_
  refine sx ?_
  refine s_cond rfl (fun t1 => ?_) (fun t1 => ?_)
  · refine sx ?_
    refine s_retc rfl rfl (by exact at_) rfl ⟨rg0, rfl, by rw [foR, if_pos t1], rfl⟩ ?_
    exact Ent.trans (H' := H) (by exact ent) hnilR
  cases all
  · refine sx ?_
    refine s_call rfl (ocopied_s (xs := hi) (by exact rby) (by omega)) ?_
    rintro _ _ ⟨a4, rfl, rfl⟩
    refine ⟨chk_seq, ?_⟩
    refine sx ?_
    refine s_call rfl (ocopied_s (xs := lo) (by exact rby) (by omega)) ?_
    rintro _ _ ⟨a5, rfl, rfl⟩
    refine ⟨chk_seq, ?_⟩
    refine sx ?_
    refine s_retc rfl rfl (by exact at_) rfl ⟨⟨a5, lo.length, lo, a4, hi.length, hi, false⟩, rfl, by rw [foR, if_neg (by rw [t1]; simp), if_neg (by simp)], rfl⟩ ?_
    exact Ent.oR (by exact rm) (by exact rm) (by exact ent)
  · refine sx ?_
    refine s_call rfl (ocopied_s (xs := lo) (by exact rby) (by omega)) ?_
    rintro _ _ ⟨a5, rfl, rfl⟩
    refine ⟨chk_seq, ?_⟩
    refine sx ?_
    refine s_retc rfl rfl (by exact at_) rfl ⟨⟨a5, lo.length, lo, none, 0, [], true⟩, rfl, by rw [foR, if_neg (by rw [t1]; simp), if_pos rfl], rfl⟩ ?_
    refine Ent.trans ?_ (Ent.head Ent.nilS |>.trans (Ent.oR (r := ⟨a5, lo.length, lo, none, 0, [], true⟩) Rm.hd Rm.hd Ent.refl))
    exact ent
theorem omeet_s {r q : Rg} (hr : RRg w0 H r) (hq : RRg w0 H q) (hl : r.lo.length ≤ 140737488355328 ∧ r.hi.length ≤ 140737488355328) (hl' : q.lo.length ≤ 140737488355328 ∧ q.hi.length ≤ 140737488355328) : FnS Tryz.prog w0 H 24 #[.agg r.cells.toArray, .agg q.cells.toArray] (FoR (meR r.d q.d) H) := by
  have h1 := hr.lo
  have h2 := hr.hi
  have h3 := hq.lo
  have h4 := hq.hi
  refine fns_enter Tryz.func24 rfl rfl rfl ?_
  refine sx ?_
  refine s_boxA rfl fun b2 => ?_
  refine sx ?_
  refine s_boxA rfl fun b3 => ?_
  refine sx ?_
  refine s_alloc fun b4 => ?_
  refine sx ?_
  refine s_callV rfl (oempty_s (r := r) (by exact rrg)) ?_
  refine sx ?_
  refine s_lsp rfl (fun t1 => ?_) (fun t1 => ?_)
  · refine sx ?_
    refine s_retc rfl rfl (by exact at_) rfl ⟨rg0, rfl, by rw [meR, if_pos (by rw [t1]; rfl)], rfl⟩ ?_
    exact Ent.trans (H' := H) (by exact ent) hnilR
  refine sx ?_
  refine s_callV rfl (oempty_s (r := q) (by exact rrg)) ?_
  refine sx ?_
  refine s_cond rfl (fun t2 => ?_) (fun t2 => ?_)
  · refine sx ?_
    refine s_retc rfl rfl (by exact at_) rfl ⟨rg0, rfl, by rw [meR, if_pos (by rw [t1, t2]; rfl)], rfl⟩ ?_
    exact Ent.trans (H' := H) (by exact ent) hnilR
  refine sx ?_
  refine s_alloc fun b5 => ?_
  refine sx ?_
  refine s_callV rfl (compare_s (xs := q.lo) (ys := r.lo) (by exact rby) (by exact rby)) ?_
  refine sx ?_
  refine s_if rfl (fun t3 => ?_) (fun t3 => ?_)
  · refine sx ?_
    refine s_callV rfl (obelow_s (r := q) (q := r) (by exact rrg) (by exact rrg)) ?_
    refine sx ?_
    refine s_cond rfl (fun t4 => ?_) (fun t4 => ?_)
    · refine sx ?_; refine s_drR (.hb b5 53 _) (by exact rm) (.one true 0 (.one true 1 (.one true 2 (.one true 3 (.one true 4 (.one false 5 (.one true 6 (.one false 7 .nil)))))))) mixed (by kernel_rfl) ?_; refine sx ?_
      refine sx ?_
      refine s_rw (t := 32) (v' := .agg (Rg.cells ⟨q.la, q.lc, q.lo, q.ha, q.hc, q.hi, q.all⟩).toArray) rfl rfl ?_
      refine s_call rfl (oform_s (r := ⟨q.la, q.lc, q.lo, q.ha, q.hc, q.hi, q.all⟩) ⟨by exact rby, by exact rby⟩ (by simp only; omega)) ?_
      rintro _ _ ⟨x, rfl, hx, rfl⟩
      refine ⟨chk_seq, ?_⟩
      refine sx ?_
      refine s_retc rfl rfl (by exact at_) rfl ⟨x, rfl, ?_, rfl⟩ (by exact ent)
      rw [hx, meR, if_neg (by rw [t1, t2]; simp), if_pos t3, if_pos t4, if_pos t4]
    · refine sx ?_
      refine s_rw (t := 32) (v' := .agg (Rg.cells ⟨q.la, q.lc, q.lo, r.ha, r.hc, r.hi, r.all⟩).toArray) rfl rfl ?_
      refine s_call rfl (oform_s (r := ⟨q.la, q.lc, q.lo, r.ha, r.hc, r.hi, r.all⟩) ⟨by exact rby, by exact rby⟩ (by simp only; omega)) ?_
      rintro _ _ ⟨x, rfl, hx, rfl⟩
      refine ⟨chk_seq, ?_⟩
      refine sx ?_
      refine s_retc rfl rfl (by exact at_) rfl ⟨x, rfl, ?_, rfl⟩ (by exact ent)
      rw [hx, meR, if_neg (by rw [t1, t2]; simp), if_pos t3, if_neg (by simp [t4]), if_neg (by simp [t4])]
  · refine sx ?_
    refine s_callV rfl (obelow_s (r := q) (q := r) (by exact rrg) (by exact rrg)) ?_
    refine sx ?_
    refine s_cond rfl (fun t4 => ?_) (fun t4 => ?_)
    · refine sx ?_; refine s_drR (.hb b5 53 _) (by exact rm) (.one true 0 (.one true 1 (.one true 2 (.one true 3 (.one true 4 (.one false 5 (.one true 6 (.one false 7 .nil)))))))) mixed (by kernel_rfl) ?_; refine sx ?_
      refine sx ?_
      refine s_rw (t := 32) (v' := .agg (Rg.cells ⟨r.la, r.lc, r.lo, q.ha, q.hc, q.hi, q.all⟩).toArray) rfl rfl ?_
      refine s_call rfl (oform_s (r := ⟨r.la, r.lc, r.lo, q.ha, q.hc, q.hi, q.all⟩) ⟨by exact rby, by exact rby⟩ (by simp only; omega)) ?_
      rintro _ _ ⟨x, rfl, hx, rfl⟩
      refine ⟨chk_seq, ?_⟩
      refine sx ?_
      refine s_retc rfl rfl (by exact at_) rfl ⟨x, rfl, ?_, rfl⟩ (by exact ent)
      rw [hx, meR, if_neg (by rw [t1, t2]; simp), if_neg t3, if_pos t4, if_pos t4]
    · refine sx ?_
      refine s_rw (t := 32) (v' := .agg (Rg.cells ⟨r.la, r.lc, r.lo, r.ha, r.hc, r.hi, r.all⟩).toArray) rfl rfl ?_
      refine s_call rfl (oform_s (r := ⟨r.la, r.lc, r.lo, r.ha, r.hc, r.hi, r.all⟩) ⟨by exact rby, by exact rby⟩ (by simp only; omega)) ?_
      rintro _ _ ⟨x, rfl, hx, rfl⟩
      refine ⟨chk_seq, ?_⟩
      refine sx ?_
      refine s_retc rfl rfl (by exact at_) rfl ⟨x, rfl, ?_, rfl⟩ (by exact ent)
      rw [hx, meR, if_neg (by rw [t1, t2]; simp), if_neg t3, if_neg (by simp [t4]), if_neg (by simp [t4])]
end Go.Sx

