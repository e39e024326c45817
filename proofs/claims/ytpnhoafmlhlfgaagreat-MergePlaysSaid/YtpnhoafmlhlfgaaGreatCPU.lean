/- Part of a proof: pieces of which one of many stands; a telling that is a method of somebody's. -/
import Derived.Test.YtpnhoafmlhlfgaaGreatCMX
import Derived.Test.YtpnhoafmlhlfgaaGreatCMZ
namespace Go.Sx
open Go Go.Proofs
set_option maxRecDepth 10000
variable {w0 : World} {H : List Ck}
/-- One of some pieces. -/
def exK {ι : Type} (c : ι → Ck) : Ck := .u ⟨fun w S => ∃ i, (c i).p w S, fun {_ _ _} h he => by obtain ⟨i, h⟩ := h; exact ⟨i, Ck.loc h he⟩⟩
theorem exK_in {ι : Type} {c : ι → Ck} (i : ι) {H : List Ck} : Ent (c i :: H) (exK c :: H) := Ent.hd1 fun _ _ h => ⟨i, h⟩
theorem exK_out {ι : Type} {c : ι → Ck} {w : World} (h : Sat w0 (exK c :: H) w) : ∃ i, Sat w0 (c i :: H) w := by
  obtain ⟨h1, S, hS, S1, a, ⟨i, b⟩, d⟩ := h
  exact ⟨i, h1, S, hS, S1, a, b, d⟩
theorem s_ex {ι : Type} {c : ι → Ck} {P : Program} {n : Nat} {ds : Dx} {cd : Code} {Q : Exit → Act → World → Prop} {l : List (Nat × Value)} (h : ∀ i, SC P n ds cd Q l w0 (c i :: H)) : SC P n ds cd Q l w0 (exK c :: H) := .mk fun w hs => by
  obtain ⟨i, hi⟩ := exK_out hs
  exact (h i).out w hi
theorem s_exL {ι : Type} {c : ι → Ck} {M : Md} {P : Program} {n : Nat} {ds : Dx} {ops : Array Oper} {Q : Exit → Act → World → Prop} {rest : Tr} {l : List (Nat × Value)} (h : ∀ i, SL M P n ds ops Q rest l w0 (c i :: H)) : SL M P n ds ops Q rest l w0 (exK c :: H) := .mk fun w hs => by
  obtain ⟨i, hi⟩ := exK_out hs
  exact (h i).out w hi
theorem FnS.ex {ι : Type} {c : ι → Ck} {P : Program} {k : FuncId} {args : Array Value} {R : Value → List Ck → Prop} (h : ∀ i, FnS P w0 (c i :: H) k args R) : FnS P w0 (exK c :: H) k args R := fun w hs => by
  obtain ⟨i, hi⟩ := exK_out hs
  exact h i w hi
section
variable {P : Program} {n : Nat} {D : Nat} {Q : Exit → Act → World → Prop} {l : List (Nat × Value)} {dl : List Deferred}
/-- A range over a method's telling. -/
theorem s_rangeB {g : Operand} {ps : List Tmp} {asg body : Code} {k : FuncId} {v : Value} [hk : FnT P k] (hg : ev l g = some (.func (.func k) #[v] #[])) (Post : Nat → Nat → Option Code → List Ck → Prop)
    (hc : ∀ ll D σ, σ = ⟨n, l, ps, asg, body, D⟩ → FnS P w0 (lpk ll σ .ready none :: dfk D :: H) k [v, yv ll].toArray (fun _ K => ∃ st pd K2, st ≠ .busy ∧ K = lpk ll σ st pd :: K2 ∧ Post ll D pd K2))
    (h0 : ∀ ll D K2, Post ll D none K2 → SQ n ⟨mark D :: dl, none⟩ Q .normal l w0 K2)
    (h1 : ∀ ll D c K2, Post ll D (some c) K2 → SC P n ⟨mark D :: dl, none⟩ c Q l w0 K2) : SC P n ⟨dl, none⟩ (.rangeFunc g ps.toArray asg body) Q l w0 H := .mk fun w hs => .mk fun a hfr => by
  refine wpIn_rangeFunc (F := fR none) ?_
  intro fn _
  have hD : Sat w0 (dfk w.heap.size :: H) (w.alloc (.deferred (some []))) := hs.new (Ext.alloc _ _) (fun i => i = w.heap.size) (fun i hi => by subst hi; simp) ⟨World.alloc_heap_new _ _, rfl⟩
  have hsz : (w.alloc (.deferred (some []))).heap.size = w.heap.size + 1 := by simp
  have hL : Sat w0 (lpk (w.heap.size + 1) ⟨n, l, ps, asg, body, w.heap.size⟩ .ready none :: dfk w.heap.size :: H) ((w.alloc (.deferred (some []))).alloc (.loop { state := .ready, pending := none, fn, tmps := a.tmps, params := ps.toArray, assign := asg, body, defers := w.heap.size })) := by
    refine hD.new (Ext.alloc _ _) (fun i => i = w.heap.size + 1) (fun i hi => by subst hi; simp) ⟨⟨fn, a.tmps, ?_, hfr.size, hfr.has⟩, rfl⟩
    have := World.alloc_heap_new (w.alloc (.deferred (some []))) (.loop { state := .ready, pending := none, fn, tmps := a.tmps, params := ps.toArray, assign := asg, body, defers := w.heap.size })
    rw [hsz] at this
    exact this
  obtain ⟨W2, hW2⟩ : ∃ W2, W2 = ((w.alloc (.deferred (some []))).alloc (.loop { state := .ready, pending := none, fn, tmps := a.tmps, params := ps.toArray, assign := asg, body := body, defers := w.heap.size })) := ⟨_, rfl⟩
  rw [← hW2] at hL
  have hent := run_enterLoop_outer (P := P) (w := w) fn a.tmps ps.toArray asg body
  rw [← hW2] at hent
  refine ⟨w.heap.size + 1, [mark w.heap.size], W2, { target := .fn (.func k) #[], args := #[v, .func (.yield (w.heap.size + 1)) #[] #[]] }, W2, k, [v, .func (.yield (w.heap.size + 1)) #[] #[]].toArray, W2, hent, ?_, fun _ _ => trivial, ?_, (fun e => by cases e), ?_⟩
  · have e := hfr.agr _ _ hg
    have e2 : a.eval (.const (.func (.yield (w.heap.size + 1)) #[] #[])) = .func (.yield (w.heap.size + 1)) #[] #[] := rfl
    simp [resolve, e, e2, Deferred.ofValue]
  · simp [invoke, hk.run]
  · refine CallsIn.mono (calls_r (ρ := none) (hc _ _ _ rfl _ hL)) ?_
    rintro e w' ⟨v, rfl, K, ⟨st, pd, K2, hst, rfl, hP⟩, hK⟩
    obtain ⟨fn', tmps', h3, h4⟩ := Sat.lpOf (H := lpk (w.heap.size + 1) ⟨n, l, ps, asg, body, w.heap.size⟩ st pd :: K2) Rm.hd hK
    have hT := hK.turn (st' := .exhausted) (pd' := pd) Rm.hd h3
    have hfr' : FrOk n ⟨mark w.heap.size :: dl, none⟩ l { a with defers := [mark w.heap.size] ++ a.defers } := ⟨hfr.size, by simp [hfr.defers], hfr.has⟩
    refine ⟨pd, _, run_endLoop h3 hst, ?_⟩
    cases pd with
    | none => exact ((h0 _ _ K2 hP).out _ hT.tl).out _ hfr'
    | some c => exact ((h1 _ _ c K2 hP).out _ hT.tl).out _ hfr'
end
/-- What a method tells, by its calls of yield. -/
def TellB (P : Program) (w0 : World) (g0 : Ck) (gm : Nat → Ck) (g1 g2 : Ck) (k : Nat) (v : Value) (L : List (Bs × Bs)) : Prop :=
  ∀ (ll : Nat) (φ : Nat → List Ck → Prop) (fin : List Ck → Prop),
    (∀ (i : Nat) (x : KV) (u : Nat) (K T E : List Ck), L[i]? = some x.p → φ i K → REe w0 (.star T :: E) x →
      YldS P w0 (.star T :: .star K :: gm u :: E) ll #[.slice x.ka x.k.length x.kc, .slice x.va x.v.length x.vc] (fun v K' => ∃ K2, (v = .bool true ∧ φ (i + 1) K2 ∨ v = .bool false ∧ fin K2) ∧ K' = .star K2 :: gm u :: E)) →
    ∀ K, φ 0 K → FnS P w0 [g0, .star K] k [v, yv ll].toArray (fun v K' => v = .tuple #[] ∧ ∃ K2, φ L.length K2 ∧ K' = [g1, .star K2] ∨ fin K2 ∧ K' = [g2, .star K2])
theorem of_sB {k : Nat} {v : Value} : FnS Tryz.prog w0 H 37 #[.func (.func k) #[v] #[]] (fun v' H' => v' = .func (.func k) #[v] #[] ∧ H' = H) := by
  refine fns_enter Tryz.func37 rfl rfl rfl ?_
  refine sx ?_
  exact s_ret1 rfl rfl ⟨rfl, rfl⟩
/-! The teller. -/
/-- He, as he stands, ranged over so often at once. -/
abbrev tlC (t : Nat) (a : Option Addr) (c n : Nat) (j : Nat) (q : Int × Int) : Ck := .hb t 38 [.slice a n c, .int .i64 q.1, .int .i64 q.2, .int .i64 j]
def tlk (t : Nat) (a : Option Addr) (c n : Nat) (j : Nat) : Ck := exK (tlC t a c n j)
@[reducible] def tlG (t : Nat) (a : Option Addr) (c : Nat) (es : List KV) (j : Nat) : Ck := .star [tlk t a c es.length j, ol 51 a c es, stars oKVs es]
def wr (xs : Bs) (m : Nat) : Bs := List.replicate m 170 ++ xs.drop m
theorem wr_len {xs : Bs} {m : Nat} (h : m ≤ xs.length) : (wr xs m).length = xs.length := by simp [wr]; omega
theorem wr_step {xs : Bs} {m : Nat} (h : m < xs.length) : (wr xs m).set m 170 = wr xs (m + 1) := by
  rw [wr, wr, List.set_append_right _ _ (by simp), List.length_replicate, Nat.sub_self, List.drop_eq_getElem_cons h, List.set_cons_zero, List.replicate_succ', List.append_assoc]
  rfl
structure TeI where
  i : Nat
  K : List Ck
  x : Int
  y : Int
set_option maxHeartbeats 8000000 in
theorem tell_s {t c j : Nat} {a : Option Addr} {es : List KV} (hj : j ≤ 1000000) (hz : ∀ e ∈ es, e.k.length ≤ 140737488351232 ∧ e.v.length ≤ 140737488351232) :
    TellB Tryz.prog w0 (tlG t a c es j) (fun _ => tlG t a c es (j + 1)) (tlG t a c es j) (tlG t a c es j) 10 (.pointer (some ⟨t, 0, none⟩)) (es.map KV.p) := by
  intro ll φ fin hy K h0
  refine FnS.ent (H' := tlk t a c es.length j :: ol 51 a c es :: stars oKVs es :: [.star K]) ?_ (Ent.open Ent.refl)
  refine FnS.ex fun ⟨x0, y0⟩ => ?_
  refine fns_enter Tryz.func10 rfl rfl rfl ?_
  refine s_kn (Kn.sl (xs := es) (RSl.hd.tl)) fun ⟨l1, l2⟩ => ?_
  simp only [maxLen] at l2
  refine sx ?_
  refine s_yS rfl rfl rfl (y_addI rfl rfl) ?_
  generalize IntKind.i64.wrap (x0 + 1) = x1
  refine sx ?_
  refine s_loop (fun q : TeI => [(0, .pointer (some ⟨t, 0, none⟩)), (1, yv ll), (4, .int .i64 q.i)]) (fun q => tlC t a c es.length (j + 1) (q.x, q.y) :: ol 51 a c es :: stars oKVs es :: [.star q.K]) (fun q => q.i ≤ es.length ∧ φ q.i q.K) (fun q => es.length - q.i) ⟨0, K, x1, y0⟩ ⟨Nat.zero_le _, h0⟩ ?_
  have hj1 : ((j + 1 : Nat) : Int) - 1 = (j : Nat) := by omega
  have hto : ∀ (q : Int × Int) {A B : List Ck}, Ent A (tlC t a c es.length j q :: ol 51 a c es :: stars oKVs es :: B) → Ent A (tlG t a c es j :: B) := fun q A B h =>
    h.trans (Ent.trans (exK_in (c := tlC t a c es.length j) q) (Ent.star (L := [tlk t a c es.length j, ol 51 a c es, stars oKVs es]) Ent.refl))
  rintro ⟨i, K1, x, y⟩ ⟨h1, h2⟩
  simp only at h1 h2 ⊢
  refine sx ?_
  refine s_if rfl (fun t1 => ?_) (fun t1 => ?_)
  · obtain ⟨e, he⟩ := get_lt es i (by omega)
    obtain ⟨z1, z2⟩ := hz e (List.mem_of_getElem? he)
    have hst : ∀ H0, REe w0 (stars oKVs es :: H0) e := fun H0 => REe.st (List.mem_of_getElem? he)
    have hk : RBy w0 (tlC t a c es.length (j + 1) (x, y) :: ol 51 a c es :: stars oKVs es :: [.star K1]) e.ka e.kc e.k := (hst _).k.tl.tl
    have hv : RBy w0 (tlC t a c es.length (j + 1) (x, y) :: ol 51 a c es :: stars oKVs es :: [.star K1]) e.va e.vc e.v := (hst _).v.tl.tl
    refine sx ?_
    refine s_bsl ([] : List UInt8) rfl rfl fun b1 => ?_
    refine sx ?_
    refine s_app (ys := e.k) ?_
    intro a1 c1
    refine sx ?_
    refine s_bsl ([7] : List UInt8) rfl rfl fun b2 => ?_
    refine sx ?_
    refine s_app (xs := [] ++ e.k) (ys := [7]) ?_
    intro ka kc
    rw [List.nil_append]
    refine sx ?_
    refine s_bsl ([] : List UInt8) rfl rfl fun b3 => ?_
    refine sx ?_
    refine s_app (ys := e.v) ?_
    intro a3 c3
    refine sx ?_
    refine s_bsl ([7] : List UInt8) rfl rfl fun b4 => ?_
    refine sx ?_
    refine s_app (xs := [] ++ e.v) (ys := [7]) ?_
    intro va vc
    rw [List.nil_append]
    refine sx ?_
    refine s_yS rfl rfl rfl (y_addI rfl rfl) ?_
    generalize IntKind.i64.wrap (y + 1) = y1
    clear hk hv
    obtain ⟨kb, hkb⟩ : ∃ kb, kb = e.k ++ [7] := ⟨_, rfl⟩
    obtain ⟨vb, hvb⟩ : ∃ vb, vb = e.v ++ [7] := ⟨_, rfl⟩
    have hkl : kb.length = e.k.length + 1 := by rw [hkb]; simp
    have hvl : vb.length = e.v.length + 1 := by rw [hvb]; simp
    rw [← hkb, ← hvb]
    refine s_knL (Kn.by (a := ka) (c := kc) (xs := kb) (by exact rby)) fun l3 => ?_
    refine s_knL (Kn.by (a := va) (c := vc) (xs := vb) (by exact rby)) fun l4 => ?_
    simp only [maxLen] at l3 l4
    refine sx ?_
    refine s_drH (ob ka kc kb :: ob va vc vb :: []) (.one true 0 (.one true 1 (.one true 2 (.one true 3 (.one true 4 (.one true 5 (.one true 6 (.one true 7 (.one true 8 (.one true 9 (.one true 10 (.one false 11 (.one true 12 .nil))))))))))))) mixed (by kernel_rfl) ?_ (he := by exact ent)
    refine sx ?_
    refine s_rw (t := 68) (v' := .int .i64 (e.k.length : Int)) rfl (ci (by omega)) ?_
    refine sx ?_
    refine s_rw (t := 73) (v' := .int .i64 (e.v.length : Int)) rfl (ci (by omega)) ?_
    refine sx ?_
    have hrk : ∀ H0, RBy w0 (ob ka kc kb :: H0) ka kc e.k := fun H0 => by
      have := (RBy.hd (w0 := w0) (E := 5) (a := ka) (c := kc) (xs := kb) (H := H0)).take (k := e.k.length) (by omega)
      rwa [show kb.take e.k.length = e.k from by rw [hkb, List.take_left]] at this
    have hrv : ∀ H0, RBy w0 (ob va vc vb :: H0) va vc e.v := fun H0 => by
      have := (RBy.hd (w0 := w0) (E := 5) (a := va) (c := vc) (xs := vb) (H := H0)).take (k := e.v.length) (by omega)
      rwa [show vb.take e.v.length = e.v from by rw [hvb, List.take_left]] at this
    refine s_yld rfl rfl ((hy i ⟨ka, kc, e.k, va, vc, e.v⟩ 0 K1 [] [ob ka kc kb, ob va vc vb] (get_map (f := KV.p) (x := e) he) h2 ⟨(hrk _).tl, (hrv _).tl.tl⟩).ent ?_) ?_
    · refine Ent.star (L := []) ?_
      refine Ent.cons (by exact rm) ?_
      refine Ent.trans (H' := .star [tlC t a c es.length (j + 1) (x, y1), ol 51 a c es, stars oKVs es] :: [ob ka kc kb, ob va vc vb]) (Ent.star (L := [tlC t a c es.length (j + 1) (x, y1), ol 51 a c es, stars oKVs es]) (by exact ent)) ?_
      exact Ent.open (Ent.trans (exK_in (c := tlC t a c es.length (j + 1)) (x, y1)) (Ent.star (L := [tlk t a c es.length (j + 1), ol 51 a c es, stars oKVs es]) Ent.refl))
    rintro v _ ⟨K2, hK2, rfl⟩
    obtain ⟨o, rfl, hK3⟩ : ∃ o : Bool, v = .bool o ∧ (o = true ∧ φ (i + 1) K2 ∨ o = false ∧ fin K2) := by
      rcases hK2 with ⟨h, h'⟩ | ⟨h, h'⟩
      · exact ⟨true, h, .inl ⟨rfl, h'⟩⟩
      · exact ⟨false, h, .inr ⟨rfl, h'⟩⟩
    have hop : Ent (.star K2 :: tlG t a c es (j + 1) :: [ob ka kc kb, ob va vc vb]) (tlk t a c es.length (j + 1) :: ol 51 a c es :: stars oKVs es :: .star K2 :: [ob ka kc kb, ob va vc vb]) := Ent.trans (Ent.perm (.swap _ _ _)) (Ent.open (by exact ent))
    refine ⟨chk_held (hop.trans (by exact ent)), ?_⟩
    refine s_entL _ hop ?_
    refine s_exL fun ⟨x2, y2⟩ => ?_
    clear hrk hrv hop hK2
    refine sx ?_
    refine s_loop (fun m : Nat => [(0, .pointer (some ⟨t, 0, none⟩)), (1, yv ll), (4, .int .i64 i), (5, .slice ka kb.length kc), (6, .slice va vb.length vc), (7, .bool o), (8, .int .i64 m)]) (fun m => ob ka kc (wr kb m) :: tlC t a c es.length (j + 1) (x2, y2) :: ol 51 a c es :: stars oKVs es :: .star K2 :: [ob va vc vb]) (fun m => m ≤ kb.length) (fun m => kb.length - m) 0 (Nat.zero_le _) ?_
    intro m hm
    refine sx ?_
    refine s_if rfl (fun t2 => ?_) (fun t2 => ?_)
    · have hw := wr_len hm
      have t2' : m < kb.length := by omega
      refine s_rwC (t := 5) (v' := .slice ka (wr kb m).length kc) rfl (by rw [hw]) ?_
      refine sx ?_
      refine s_set1g (i := m) (y := (170 : UInt8)) rfl rfl (by exact at_) rfl (by omega) ?_
      rw [wr_step t2']
      refine sx ?_
      refine s_rwQ (t := 5) (v' := .slice ka kb.length kc) rfl (by rw [hw]) ?_
      exact s_again (m + 1) (by omega) (by omega)
    obtain ⟨kd, hkd⟩ : ∃ kd, kd = wr kb m := ⟨_, rfl⟩
    rw [← hkd]
    clear hkd hm t2
    refine sx ?_
    refine s_loop (fun m : Nat => [(0, .pointer (some ⟨t, 0, none⟩)), (1, yv ll), (4, .int .i64 i), (6, .slice va vb.length vc), (7, .bool o), (9, .int .i64 m)]) (fun m => ob va vc (wr vb m) :: tlC t a c es.length (j + 1) (x2, y2) :: ol 51 a c es :: stars oKVs es :: .star K2 :: []) (fun m => m ≤ vb.length) (fun m => vb.length - m) 0 (Nat.zero_le _) ?_
    intro m hm
    refine sx ?_
    refine s_if rfl (fun t2 => ?_) (fun t2 => ?_)
    · have hw := wr_len hm
      have t2' : m < vb.length := by omega
      refine s_rwC (t := 6) (v' := .slice va (wr vb m).length vc) rfl (by rw [hw]) ?_
      refine sx ?_
      refine s_set1g (i := m) (y := (170 : UInt8)) rfl rfl (by exact at_) rfl (by omega) ?_
      rw [wr_step t2']
      refine sx ?_
      refine s_rwQ (t := 6) (v' := .slice va vb.length vc) rfl (by rw [hw]) ?_
      exact s_again (m + 1) (by omega) (by omega)
    rcases hK3 with ⟨rfl, hK3⟩ | ⟨rfl, hK3⟩
    · refine sx ?_
      exact s_again ⟨i + 1, K2, x2, y2⟩ ⟨by simp only; omega, hK3⟩ (by simp only; omega)
    · refine sx ?_
      rw [hj1]
      refine s_end0 rfl ⟨rfl, K2, .inr ⟨hK3, rfl⟩⟩ ?_
      exact hto (x2, y2) (by exact ent)
  · obtain rfl : i = es.length := by omega
    refine sx ?_
    rw [hj1]
    refine s_end0 rfl ⟨rfl, K1, .inl ⟨by rw [List.length_map]; exact h2, rfl⟩⟩ ?_
    exact hto (x, y) (by exact ent)
end Go.Sx

