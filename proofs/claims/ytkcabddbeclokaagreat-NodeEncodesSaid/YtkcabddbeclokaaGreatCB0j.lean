/- Part of a proof: several parts of a walk, one behind the other. -/
import Derived.Test.YtkcabddbeclokaaGreatCKB
namespace Go.Sx
open Go Go.Proofs
set_option maxRecDepth 10000
theorem common_go (w : World) (a a' : Option Addr) (c c' : Nat) (xs ys : List UInt8) (ha : By w a c xs) (hb : By w a' c' ys) :
    Fn Tryz.prog 87 #[.slice a xs.length c, .slice a' ys.length c'] w (fun v w' => v = .int .i64 (common xs ys) ∧ Ex w w') := by
  have l1 := ha.len
  have l2 := hb.len
  refine fn_enter Tryz.func87 rfl rfl rfl ?_
  refine sxo ?_
  refine c_loop (fun k : Nat => [(0, .slice a xs.length c), (1, .slice a' ys.length c'), (5, .int .i64 ((min xs.length ys.length : Nat) : Int)), (12, .int .i64 ((min xs.length ys.length : Nat) : Int)), (13, .int .i64 k)])
    (fun k w1 => Ex w w1 ∧ k ≤ xs.length ∧ k ≤ ys.length ∧ ∀ i, i < k → xs.getD i 0 = ys.getD i 0) (fun k => xs.length - k) 0 (by exact ⟨rfl, rfl, rfl, rfl, rfl, trivial⟩) ⟨Ext.refl w, Nat.zero_le _, Nat.zero_le _, fun i hi => absurd hi (by omega)⟩ ?_
  rintro k w1 ⟨hE, hk1, hk2, hk⟩
  refine sxo ?_
  refine c_if rfl (fun hlt => ?_) (fun hge => ?_)
  · obtain ⟨ad, rfl⟩ := ha.some (by omega)
    obtain ⟨ad', rfl⟩ := hb.some (by omega)
    have ha1 := ha.ex hE
    have hb1 := hb.ex hE
    refine sxo ?_
    refine c_dr (fun _ => False) (.one true 0 (.one true 1 (.one true 2 (.one true 3 (.one true 4 (.one true 5 (.one true 6 (.one true 7 (.one true 8 .nil))))))))) mixed (by kernel_rfl) ?_
    intro w2 hE2 hh
    refine sxo ?_
    refine c_ifn rfl (fun hne => ?_) (fun heq => ?_)
    · refine sxo ?_
      refine q_ret1 rfl rfl ⟨?_, hE.trans hE2⟩
      rw [common_eq xs ys k (by omega) (by omega) hk (.inr (.inr hne))]
    · refine sxo ?_
      refine q_again (k + 1) ⟨rfl, rfl, rfl, rfl, rfl, trivial⟩ ⟨hE.trans hE2, by omega, by omega, fun i hi => ?_⟩ (by omega)
      rcases Nat.lt_or_eq_of_le (Nat.lt_succ_iff.1 hi) with h | rfl
      · exact hk i h
      · exact heq
  · refine sxo ?_
    refine q_ret1 rfl rfl ⟨?_, hE⟩
    rw [common_eq xs ys (min xs.length ys.length) (by omega) (by omega) (fun i hi => hk i (by omega)) (by omega)]

theorem compare_go (w : World) (a a' : Option Addr) (c c' : Nat) (xs ys : List UInt8) (ha : By w a c xs) (hb : By w a' c' ys) :
    Fn Tryz.prog 66 #[.slice a xs.length c, .slice a' ys.length c'] w (fun v w' => v = .int .i64 (cmp xs ys) ∧ Ex w w') := by
  have l1 := ha.len
  have l2 := hb.len
  have hcl := common_le xs ys
  refine fn_enter Tryz.func66 rfl rfl rfl ?_
  refine sxo ?_
  refine l_call rfl rfl rfl rfl (common_go w a a' c c' xs ys ha hb) ?_
  rintro _ w2 ⟨rfl, hE2⟩
  refine ⟨trivial, ?_⟩
  have ha2 := ha.ex hE2
  have hb2 := hb.ex hE2
  refine sxo ?_
  have hc := cmp_common xs ys
  refine l_if rfl (fun h1 => ?_) (fun h1 => ?_)
  · have h1' : common xs ys = xs.length := by omega
    refine sxo ?_
    refine c_if rfl (fun h2 => ?_) (fun h2 => ?_)
    · have h2' : common xs ys = ys.length := by omega
      refine sxo ?_
      exact q_ret1 rfl rfl ⟨by rw [hc, if_pos ⟨h1', h2'⟩], hE2⟩
    · refine sxo ?_
      refine c_if rfl (fun _ => ?_) (fun h3 => absurd h1 h3)
      refine sxo ?_
      exact q_ret1 rfl rfl ⟨by rw [hc, if_neg (by omega), if_pos h1'], hE2⟩
  · have h1' : ¬ common xs ys = xs.length := by omega
    refine sxo ?_
    refine c_if rfl (fun h3 => absurd h3 h1) (fun _ => ?_)
    refine sxo ?_
    refine c_dr (fun _ => False) (.one true 0 (.one true 1 (.one true 2 (.one true 3 (.one true 4 (.one true 5 (.one true 6 (.one true 7 (.one true 8 (.one true 9 (.one true 10 (.one true 11 (.one true 12 (.one true 13 (.one true 14 (.one true 15 .nil)))))))))))))))) mixed (by kernel_rfl) ?_
    intro w3 hE3 hh
    refine sxo ?_
    refine l_if rfl (fun h2 => ?_) (fun h2 => ?_)
    · refine sxo ?_
      exact q_ret1 rfl rfl ⟨by rw [hc, if_neg (by omega), if_neg h1', if_pos (.inl (by omega))], hE2.trans hE3⟩
    · obtain ⟨ad, rfl⟩ := ha.some (by omega)
      obtain ⟨ad', rfl⟩ := hb.some (by omega)
      refine sxo ?_
      refine c_if rfl (fun h4 => ?_) (fun h4 => ?_)
      · refine sxo ?_
        exact q_ret1 rfl rfl ⟨by rw [hc, if_neg (by omega), if_neg h1', if_pos (.inr h4)], hE2.trans hE3⟩
      · refine sxo ?_
        exact q_ret1 rfl rfl ⟨by rw [hc, if_neg (by omega), if_neg h1', if_neg (by rintro (h | h); omega; exact h4 h)], hE2.trans hE3⟩

/-- A range, as a struct's cells. -/
structure Rg where
  la : Option Addr
  lc : Nat
  lo : Bs
  ha : Option Addr
  hc : Nat
  hi : Bs
  all : Bool
def Rg.cells (r : Rg) : List Value := [.slice r.la r.lo.length r.lc, .slice r.ha r.hi.length r.hc, .bool r.all]
section
variable {w0 : World} {H : List Ck}
@[reducible] def ob (a : Option Addr) (c : Nat) (xs : Bs) : Ck := ol 5 a c xs
abbrev I64 (x : Int) : Prop := -9223372036854775808 ≤ x ∧ x ≤ 9223372036854775807
variable {a a' : Option Addr} {c c' : Nat} {xs ys : Bs}
theorem common_s (ha : RBy w0 H a c xs) (hb : RBy w0 H a' c' ys) : FnV Tryz.prog w0 H 87 #[.slice a xs.length c, .slice a' ys.length c'] (.int .i64 (common xs ys)) :=
  FnV.of fun w hs => common_go w _ _ _ _ _ _ (ha w hs) (hb w hs)
theorem compare_s (ha : RBy w0 H a c xs) (hb : RBy w0 H a' c' ys) : FnV Tryz.prog w0 H 66 #[.slice a xs.length c, .slice a' ys.length c'] (.int .i64 (cmp xs ys)) :=
  FnV.of fun w hs => compare_go w _ _ _ _ _ _ (ha w hs) (hb w hs)
end
end Go.Sx
namespace Go.Sx
open Go
theorem get_map {α β : Type} {f : α → β} {l : List α} {i : Nat} {x : α} (h : l[i]? = some x) : (l.map f)[i]? = some (f x) := by simp [h]
theorem snocT {α : Type} {l : List α} {i : Nat} {e : α} (h : l[i]? = some e) : l.take (i + 1) = l.take i ++ [e] := by
  obtain ⟨hi, rfl⟩ := List.getElem?_eq_some_iff.1 h
  exact (List.take_append_getElem hi).symm
theorem dropG {α : Type} {l : List α} {i : Nat} {e : α} (h : l[i]? = some e) : l.drop i = e :: l.drop (i + 1) := by
  obtain ⟨hi, rfl⟩ := List.getElem?_eq_some_iff.1 h
  exact List.drop_eq_getElem_cons hi
section
variable {w0 : World} {H : List Ck}
theorem s_rwQ {n : Nat} {ds : List Deferred} {Q : Exit → Act → World → Prop} {e : Exit} {l : List (Nat × Value)} {t : Nat} {v v' : Value} (h : look l t = some v) (he : v = v') (k : SQ n ds Q e ((t, v') :: l) w0 H) : SQ n ds Q e l w0 H := by
  subst he
  refine .mk fun w hs => .mk fun a ha => (k.out w hs).out a ⟨ha.size, ha.defers, fun t' u ht => ?_⟩
  simp only [look] at ht
  by_cases e : t = t'
  · subst e; simp at ht; subst ht; exact ha.has _ _ h
  · have hb : Nat.beq t t' = false := by rw [← Bool.not_eq_true, Nat.beq_eq]; exact e
    rw [hb] at ht
    exact ha.has _ u ht
end
section
variable {fn : Func} {R : Value → World → Prop} {P : Program} {n : Nat} {l : List (Nat × Value)} {w : World}
/-- Two structs are returned. -/
theorem q_retcc {t t' : Tmp} {T : TypeId} {sz : Nat} [h : AgT P T sz] {k U k' U' : Nat} {vs vs' : List Value} (hr : fn.results = #[.cell t T, .cell t' T]) (hl : look l t = some (.pointer (some ⟨k, 0, none⟩))) (hl' : look l t' = some (.pointer (some ⟨k', 0, none⟩))) (hB : HB w k U vs) (hz : vs.length = sz) (hB' : HB w k' U' vs') (hz' : vs'.length = sz)
    (hR : R (.tuple #[.agg vs.toArray, .agg vs'.toArray]) w) : QJ n [] (bodyPost P fn (RetR R)) .ret l w := .mk fun a ha => by
  subst hz
  have h1 := run_loadCells_list (P := P) (w := w) ⟨k, 0, none⟩ vs hB.cells
  have h2 := run_loadCells_list (P := P) (w := w) ⟨k', 0, none⟩ vs' hB'.cells
  rw [hz'] at h2
  exact ⟨ha.defers, .tuple #[.agg vs.toArray, .agg vs'.toArray], by simp [results, hr, Array.getD_eq_getD_getElem?, ha.has _ _ hl, ha.has _ _ hl', asAddr, loadVar, h.agg, h.size, h1, h2], _, rfl, hR⟩
end
section
variable {P : Program} {fn : Func} {R : Value → List Ck → Prop} {n : Nat} {l : List (Nat × Value)} {w0 : World} {H H' : List Ck}
theorem s_retcc {t t' : Tmp} {T : TypeId} {sz : Nat} [h : AgT P T sz] {k U k' U' : Nat} {vs vs' : List Value} {H1 H2 : List Ck} (hr : fn.results = #[.cell t T, .cell t' T]) (hl : look l t = some (.pointer (some ⟨k, 0, none⟩))) (hl' : look l t' = some (.pointer (some ⟨k', 0, none⟩))) (hB : At (.hb k U vs) (.hb k U vs) H H1) (hz : vs.length = sz) (hB' : At (.hb k' U' vs') (.hb k' U' vs') H H2) (hz' : vs'.length = sz)
    (hR : R (.tuple #[.agg vs.toArray, .agg vs'.toArray]) H') (he : Ent H H' := by exact ent) : SQ n [] (bodyPost P fn (RetR (RS w0 R))) .ret l w0 H := .mk fun _ hs => q_retcc hr hl hl' (Sat.hbOf hB hs) hz (Sat.hbOf hB' hs) hz' ⟨H', hR, hs.ent he⟩
end
end Go.Sx
namespace Go.Sx
open Go Go.Proofs
set_option maxRecDepth 10000

def sizedB (size : Int) : Bool := decide (size = 512) || decide (size = 1024) || decide (size = 2048) || decide (size = 4096)
theorem sizedB_bd {size : Int} (h : sizedB size = true) : 512 ≤ size ∧ size ≤ 4096 := by
  simp only [sizedB, Bool.or_eq_true, decide_eq_true_eq] at h
  omega
/-- Children: their pages, the keys between; where they lie. -/
structure Kd where
  pa : Option Addr
  pc : Nat
  ps : List Int
  ka : Option Addr
  kc : Nat
  ks : List SB
def Kd.cells (k : Kd) : List Value := [.slice k.pa k.ps.length k.pc, .slice k.ka k.ks.length k.kc]
abbrev Kd.keys (k : Kd) : List Bs := k.ks.map SB.xs
abbrev Kd.d (k : Kd) : List Int × List Bs := (k.ps, k.keys)
theorem Kd.kget {k : Kd} {i : Nat} {p : SB} (h : k.ks[i]? = some p) : k.keys[i]? = some p.xs := by simp [h]
instance : Cel Kd := ⟨2, Kd.cells, fun _ => rfl, fun _ => rfl, Nat.two_pos⟩
abbrev kd0 : Kd := ⟨none, 0, [], none, 0, []⟩
section
variable {w0 : World} {H : List Ck}
/-- They can be read. -/
structure RKd (w0 : World) (H : List Ck) (k : Kd) : Prop where
  ps : RSl w0 H k.pa k.pc k.ps
  ks : RSl w0 H k.ka k.kc k.ks
  el : ∀ p ∈ k.ks, RBy w0 H p.a p.c p.xs
theorem RKd.tl {k : Kd} {d : Ck} (h : RKd w0 H k) : RKd w0 (d :: H) k := ⟨h.ps.tl, h.ks.tl, fun p hp => (h.el p hp).tl⟩
theorem RKd.ent {k : Kd} {H' : List Ck} (h : RKd w0 H' k) (e : Ent H H') : RKd w0 H k := ⟨h.ps.ent e, h.ks.ent e, fun p hp => (h.el p hp).ent e⟩
theorem RKd.nil : RKd w0 H kd0 := ⟨RSl.nil, RSl.nil, fun _ h => by cases h⟩
/-- Children of one's own. -/
@[reducible] def oK (k : Kd) : Ck := .star [ol 3 k.pa k.pc k.ps, ol 44 k.ka k.kc k.ks, fam 5 k.ks]
theorem RKd.oK {k : Kd} : RKd w0 (oK k :: H) k :=
  ⟨RSl.ent RSl.hd (Ent.mem' (c := ol 3 k.pa k.pc k.ps) (by simp)), RSl.ent RSl.hd (Ent.mem' (c := ol 44 k.ka k.kc k.ks) (by simp)), fun _ hp => RBy.ent RBy.hd ((Ent.mem' (c := fam 5 k.ks) (by simp)).trans (fam_mem hp))⟩
theorem rkd {k : Kd} (h : RKd w0 H k := by (repeat (first | assumption | exact RKd.oK | exact RKd.nil | apply RKd.tl)); first | done | fail) : RKd w0 H k := h
theorem Kn.kp {k : Kd} (h : RKd w0 H k) : Kn w0 H (k.ps.length ≤ k.pc ∧ k.pc ≤ maxLen) := Kn.sl h.ps
theorem Kn.kk {k : Kd} (h : RKd w0 H k) : Kn w0 H (k.ks.length ≤ k.kc ∧ k.kc ≤ maxLen) := Kn.sl h.ks
end
instance : ElT Tryz.prog 25 Kd := ⟨trivial⟩

/-! ### Plain -/
def keysB (ks : List Bs) : Nat := (ks.map fun x => 2 + x.length).sum
theorem keysB_snoc (ks : List Bs) (x : Bs) : keysB (ks ++ [x]) = keysB ks + (2 + x.length) := by simp [keysB]
theorem keysB_app (ks ls : List Bs) : keysB (ks ++ ls) = keysB ks + keysB ls := by simp [keysB]
theorem keysB_take (ks : List Bs) (i : Nat) : keysB (ks.take i) ≤ keysB ks := by
  conv => rhs; rw [← List.take_append_drop i ks, keysB_app]
  omega
theorem keysB_get {ks : List Bs} {i : Nat} {x : Bs} (h : ks[i]? = some x) : keysB (ks.take (i + 1)) = keysB (ks.take i) + (2 + x.length) := by
  rw [← keysB_snoc]; congr 1
  obtain ⟨hi, rfl⟩ := List.getElem?_eq_some_iff.1 h
  exact (List.take_append_getElem hi).symm
def bytesK (d : List Int × List Bs) : Nat := 2 + 4 * d.1.length + keysB d.2
/-- The first key that is above. -/
def chl (ks : List Bs) (key : Bs) : Nat := ks.findIdx fun x => decide (0 < cmp x key)
end Go.Sx
