/- Part of a proof: messages that are lent, with marks behind them; entries and messages as their owner has written over them. -/
import Derived.Test.YtimakbpghggdfaaGreatCPB
import Derived.Test.YtimakbpghggdfaaGreatCV2j
namespace Go.Sx
open Go Go.Proofs
set_option maxRecDepth 10000
variable {w0 : World} {H : List Ck}
def fP (p : Bs × Bs) : Bs × Bs := (p.1.map fx, p.2.map fx)
theorem fE_mp {fs es : List KV} (h : fs.map KV.p = es.map KV.p) : (fs.map fE).map KV.p = (es.map KV.p).map fP := by
  rw [← h, List.map_map, List.map_map]
  rfl
theorem turnedE_s {a : Option Addr} {c : Nat} {es : List KV} (hx : RSl w0 H a c es) (hr : ∀ e ∈ es, REe w0 H e) (hl : es.length ≤ 549755813888) (hz : ∀ e ∈ es, e.k.length ≤ 140737488351232 ∧ e.v.length ≤ 140737488351232) :
    FnS Tryz.prog w0 H 61 #[.slice a es.length c] (fun v H' => ∃ a' c' fs b, v = .slice a' (fs : List KV).length c' ∧ fs.map KV.p = (es.map KV.p).map fP ∧ H' = .star (lEs a' c' fs b) :: H) := by
  refine fns_enter Tryz.func61 rfl rfl rfl ?_
  refine sx ?_
  refine s_call rfl (lentE_s hx hr hl hz) ?_
  rintro _ _ ⟨a1, c1, fs, mb, rfl, hfs, rfl⟩
  refine ⟨chk_seq, ?_⟩
  refine sx ?_
  refine s_call rfl (keptE_s hx hr hfs) ?_
  rintro _ _ ⟨rfl, rfl⟩
  refine ⟨chk_seq, ?_⟩
  refine sx ?_
  exact s_ret1 rfl rfl ⟨a1, c1, fs.map fE, mb, by rw [List.length_map], fE_mp hfs, rfl⟩
/-! Messages. -/
@[reducible] def lM (m : Mg) : List Ck := [ob m.la m.lc (lm m.lo), ob m.ha m.hc (lm m.hi), ob m.va m.vc (lm m.v)]
theorem lM_st {ms : List Mg} {m : Mg} (h : m ∈ ms) : RMg w0 (stars lM ms :: H) m := RMg.ent (H' := lM m) ⟨lm_by, lm_by.tl, lm_by.tl.tl⟩ (stars_mem h)
def fM (m : Mg) : Mg := ⟨m.st, m.kd, m.la, m.lc, m.lo.map fx, m.ha, m.hc, m.hi.map fx, m.va, m.vc, m.v.map fx⟩
def fD (d : MD) : MD := ⟨d.st, d.kd, d.lo.map fx, d.hi.map fx, d.v.map fx⟩
theorem fM_cells (m : Mg) : (fM m).cells = m.cells := by simp [fM, Mg.cells]
theorem fM_flat (ms : List Mg) : flat (ms.map fM) = flat ms := by
  induction ms with
  | nil => rfl
  | cons e es ih =>
    show (fM e).cells ++ flat (es.map fM) = e.cells ++ flat es
    rw [fM_cells, ih]
def mg77 : Mg := ⟨77, 0, none, 0, [], none, 0, [], none, 0, []⟩
/-- Messages that are lent. -/
@[reducible] def lMs (a : Option Addr) (c : Nat) (fs : List Mg) : List Ck := [ol 35 a c (fs ++ [mg77]), stars lM fs]
structure LmgI where
  a : Option Addr
  c : Nat
  fs : List Mg
abbrev Zl (m : Mg) : Prop := m.lo.length ≤ 140737488351232 ∧ m.hi.length ≤ 140737488351232 ∧ m.v.length ≤ 140737488351232
set_option maxHeartbeats 4000000 in
theorem lentM_s {a : Option Addr} {c : Nat} {ms : List Mg} (hx : RMs w0 H a c ms) (hl : ms.length ≤ 549755813888) (hz : ∀ m ∈ ms, Zl m) :
    FnS Tryz.prog w0 H 59 #[.slice a ms.length c] (fun v H' => ∃ a' c' fs, v = .slice a' (fs : List Mg).length c' ∧ fs.map Mg.d = ms.map Mg.d ∧ H' = .star (lMs a' c' fs) :: H) := by
  refine fns_enter Tryz.func59 rfl rfl rfl ?_
  have hsl := hx.sl
  refine sx ?_
  refine s_rw (t := 8) (v' := .int .i64 ((ms.length + 1 : Nat) : Int)) rfl (ci (by omega)) ?_
  refine s_make0 (α := Mg) rfl rfl (by omega) fun b3 => ?_
  refine sx ?_
  refine s_loop (fun q : LmgI => [(0, .slice a ms.length c), (3, .slice q.a q.fs.length q.c), (4, .int .i64 q.fs.length)]) (fun q => ol 35 q.a q.c q.fs :: stars lM q.fs :: H) (fun q => q.fs.length ≤ ms.length ∧ q.fs.map Mg.d = (ms.map Mg.d).take q.fs.length) (fun q => ms.length - q.fs.length) ⟨some b3, ms.length + 1, []⟩ ⟨Nat.zero_le _, rfl⟩ ?_ (he := Ent.head stars_nil)
  rintro ⟨oa, oc, fs⟩ ⟨h1, h2⟩
  simp only at h1 h2 ⊢
  refine sx ?_
  refine s_if rfl (fun t1 => ?_) (fun t1 => ?_)
  · have t1 : (fs.length : Int) < (ms.length : Int) := t1
    obtain ⟨m, hm⟩ := get_lt ms fs.length (by omega)
    have hmem := List.mem_of_getElem? hm
    have hre := hx.el m hmem
    have hlo := hre.lo
    have hhi := hre.hi
    have hv := hre.v
    obtain ⟨z1, z2, z3⟩ := hz m hmem
    refine sx ?_
    refine s_alloc fun b5 => ?_
    refine sx ?_
    refine s_call rfl (lent_s (xs := m.lo) (by exact rby) z1) ?_
    rintro _ _ ⟨a1, c1, rfl, rfl⟩
    refine ⟨chk_seq, ?_⟩
    refine sx ?_
    refine s_call rfl (lent_s (xs := m.hi) (by exact rby) z2) ?_
    rintro _ _ ⟨a2, c2, rfl, rfl⟩
    refine ⟨chk_seq, ?_⟩
    refine sx ?_
    refine s_call rfl (lent_s (xs := m.v) (by exact rby) z3) ?_
    rintro _ _ ⟨a3, c3, rfl, rfl⟩
    refine ⟨chk_seq, ?_⟩
    refine sx ?_
    refine s_bsl [(⟨m.st, m.kd, a1, c1, m.lo, a2, c2, m.hi, a3, c3, m.v⟩ : Mg)] rfl rfl fun b4 => ?_
    refine s_app ?_
    intro a5 c5
    refine sx ?_
    refine s_rwQ (t := 4) (v' := .int .i64 ((fs ++ [(⟨m.st, m.kd, a1, c1, m.lo, a2, c2, m.hi, a3, c3, m.v⟩ : Mg)]).length : Nat)) rfl (ci (by rw [List.length_append]; rfl)) ?_
    refine s_again ⟨a5, c5, fs ++ [⟨m.st, m.kd, a1, c1, m.lo, a2, c2, m.hi, a3, c3, m.v⟩]⟩ ⟨by simp only [List.length_append, List.length_singleton]; omega, ?_⟩ (by simp only [List.length_append, List.length_singleton]; omega) (he := ?_)
    · simp only [List.map_append, List.length_append, List.length_singleton]
      rw [h2, snocT (get_map (f := Mg.d) hm)]
      rfl
    · refine Ent.cons (by exact rm) ?_
      refine Ent.trans (H' := lM ⟨m.st, m.kd, a1, c1, m.lo, a2, c2, m.hi, a3, c3, m.v⟩ ++ stars lM fs :: H) ?_ stars_snoc
      exact Ent.cons (by exact rm) (Ent.cons (by exact rm) (Ent.cons (by exact rm) (by exact ent)))
  · have hl2 : fs.length = ms.length := by omega
    refine sx ?_
    refine s_bsl [mg77] rfl rfl fun c2 => ?_
    refine s_app ?_
    intro a5 c5
    have hl3 : (fs ++ [mg77]).length = fs.length + 1 := by simp
    refine s_knL (Kn.sl (a := a5) (c := c5) (xs := fs ++ [mg77]) (by exact rsl)) fun m5 => ?_
    simp only [maxLen] at m5
    refine sx ?_
    refine s_ret1 rfl rfl ⟨a5, c5, fs, by rw [hl2], ?_, rfl⟩ ?_
    · rw [h2, hl2, List.take_of_length_le (by rw [List.length_map]; exact Nat.le_refl _)]
    · refine Ent.star (L := lMs a5 c5 fs) ?_
      exact ent
theorem ol_fM {E : TypeId} {a : Option Addr} {c : Nat} {fs : List Mg} : (ol E a c (fs.map fM ++ [mg77]) : Ck) = ol E a c (fs ++ [mg77]) := by
  show Ck.own _ _ _ _ _ _ = Ck.own _ _ _ _ _ _
  have h1 : (fs.map fM ++ [mg77]).length = (fs ++ [mg77]).length := by simp
  have h2 : flat (fs.map fM ++ [mg77]) = flat (fs ++ [mg77]) := by
    have := fM_flat fs
    simp only [flat, List.flatMap_append] at this ⊢
    rw [this]
  rw [h1, h2]
def tkM' (fs : List Mg) (i : Nat) : List Mg := (fs.take i).map fM ++ fs.drop i
theorem tkM_get {fs : List Mg} {i : Nat} {e : Mg} (h : fs[i]? = some e) : (tkM' fs i)[i]? = some e := by
  have hi := (List.getElem?_eq_some_iff.1 h).1
  rw [tkM', dropG h, List.getElem?_append_right (by simp; omega)]
  simp [Nat.min_eq_left (Nat.le_of_lt hi)]
theorem tkM_set {fs : List Mg} {i : Nat} {e : Mg} (h : fs[i]? = some e) : (tkM' fs i).set i (fM e) = tkM' fs (i + 1) := by
  have hi := (List.getElem?_eq_some_iff.1 h).1
  have hl : ((fs.take i).map fM).length = i := by simp; omega
  rw [tkM', dropG h, List.set_append_right _ _ (by omega), hl, Nat.sub_self, tkM', snocT h, List.map_append, List.append_assoc]
  rfl
theorem mk_eq {fs ms : List Mg} {i : Nat} {f m : Mg} (h : fs.map Mg.d = ms.map Mg.d) (hf : fs[i]? = some f) (hm : ms[i]? = some m) : f.st = m.st ∧ f.kd = m.kd ∧ f.lo = m.lo ∧ f.hi = m.hi ∧ f.v = m.v := by
  have h1 := congrArg (fun l => l[i]?) h
  simp only [List.getElem?_map, hf, hm, Option.map_some, Option.some.injEq, Mg.d, MD.mk.injEq] at h1
  exact h1
set_option maxHeartbeats 8000000 in
theorem keptM_s {a a' : Option Addr} {c c' : Nat} {ms fs : List Mg} (hx : RMs w0 H a c ms) (hp : fs.map Mg.d = ms.map Mg.d) :
    FnS Tryz.prog w0 (.star (lMs a' c' fs) :: H) 66 #[.slice a' fs.length c', .slice a ms.length c] (fun v H' => v = .bool true ∧ H' = .star (lMs a' c' (fs.map fM)) :: H) := by
  have hl : fs.length = ms.length := by simpa using congrArg List.length hp
  have hsl := hx.sl
  refine fns_enter Tryz.func66 rfl rfl rfl ?_
  refine s_ent (ol 35 a' c' (fs ++ [mg77]) :: stars lM fs :: H) (Ent.open Ent.refl) ?_
  refine s_kn (Kn.sl (RSl.hd (w0 := w0) (E := 35) (a := a') (c := c') (xs := fs ++ [mg77]) (H := stars lM fs :: H))) fun l1 => ?_
  refine s_kn (Kn.sl hsl.tl.tl) fun l2 => ?_
  have hl3 : (fs ++ [mg77]).length = fs.length + 1 := by simp
  simp only [maxLen] at l1 l2
  have hbe : (fs ++ [mg77])[ms.length]? = some mg77 := by rw [← hl, List.getElem?_append_right (Nat.le_refl _), Nat.sub_self]; rfl
  refine sx ?_
  refine s_gT rfl (by simp [hl]) ?_
  refine sx ?_
  refine s_rw (t := 21) (v' := .int .i64 (((fs ++ [mg77]).length : Nat) : Int)) rfl (ci (by omega)) ?_
  refine sx ?_
  refine s_rwC (t := 6) (v' := .bool true) rfl (by rfl) ?_
  clear hbe
  refine s_loop (fun i : Nat => [(0, .slice a' fs.length c'), (1, .slice a ms.length c), (5, .int .i64 ms.length), (6, .bool true), (7, .int .i64 i)]) (fun i => ol 35 a' c' (fs ++ [mg77]) :: stars lM (tkM' fs i) :: H) (fun i => i ≤ ms.length) (fun i => ms.length - i) 0 (Nat.zero_le _) ?_
  intro i hi
  refine sx ?_
  refine s_lif rfl (fun t1 => ?_) (fun t1 => ?_)
  · obtain ⟨m, hm⟩ := get_lt ms i (by omega)
    obtain ⟨f, hf⟩ := get_lt fs i (by omega)
    obtain ⟨est, ekd, elo, ehi, ev⟩ := mk_eq hp hf hm
    have hre := hx.el m (List.mem_of_getElem? hm)
    have hlo := hre.lo
    have hhi := hre.hi
    have hv := hre.v
    have hfb : (fs ++ [mg77])[i]? = some f := by rw [List.getElem?_append_left (by omega)]; exact hf
    have hsf : RSl w0 (ol 35 a' c' (fs ++ [mg77]) :: stars lM (tkM' fs i) :: H) a' c' fs := by
      have := (RSl.hd (w0 := w0) (E := 35) (a := a') (c := c') (xs := fs ++ [mg77]) (H := stars lM (tkM' fs i) :: H)).take (k := fs.length) (by omega)
      rwa [List.take_left'] at this
      rfl
    refine sx ?_
    refine s_alloc fun b8 => ?_
    refine sx ?_
    refine s_dr (.one true 0 (.one true 1 (.one true 2 (.one true 3 (.one true 4 (.one true 5 (.one true 6 (.one true 7 (.one true 8 (.one true 9 (.one true 10 (.one true 11 (.one true 12 (.one true 13 (.one true 14 (.one true 15 (.one true 16 (.one true 17 (.one true 18 (.one true 19 (.one true 20 (.one true 21 (.one true 22 (.one true 23 (.one true 24 (.one true 25 (.one true 26 (.one true 27 (.one true 28 (.one true 29 (.one true 30 (.one true 31 (.one true 32 (.one true 33 (.one true 34 (.one true 35 (.one true 36 (.one true 37 (.one true 38 (.one true 39 (.one true 40 (.one true 41 (.one true 42 (.one true 43 (.one true 44 (.one true 45 (.one true 46 (.one true 47 (.one true 48 (.one true 49 (.one true 50 (.one true 51 (.one true 52 (.one true 53 (.one true 54 .nil))))))))))))))))))))))))))))))))))))))))))))))))))))))) mixed (by kernel_rfl) ?_
    refine sx ?_
    refine s_gT rfl (by simp [est]) ?_
    refine sx ?_
    refine s_gT rfl (by simp [ekd]) ?_
    refine sx ?_
    refine s_gT rfl (by simp [elo]) ?_
    refine sx ?_
    refine s_gT rfl (by simp [ehi]) ?_
    refine sx ?_
    refine s_rwC (t := 95) (v' := .bool true) rfl (congrArg Value.bool (by simp [ev])) ?_
    have hget : ∀ {R : List Ck}, Ent (stars lM (tkM' fs i) :: R) (ob f.la f.lc (lm m.lo) :: ob f.ha f.hc (lm m.hi) :: ob f.va f.vc (lm m.v) :: stars lM ((tkM' fs i).eraseIdx i) :: R) := fun {R} => by
      have h := stars_get (f := lM) (H := R) (tkM_get hf)
      rw [← elo, ← ehi, ← ev]
      exact h
    have hput : ∀ {R : List Ck}, Ent (ob f.la f.lc (lm (m.lo.map fx)) :: ob f.ha f.hc (lm (m.hi.map fx)) :: ob f.va f.vc (lm (m.v.map fx)) :: stars lM ((tkM' fs i).eraseIdx i) :: R) (stars lM (tkM' fs (i + 1)) :: R) := fun {R} => by
      have h := stars_put (f := lM) (s := fM f) (H := R) (List.getElem?_eq_some_iff.1 (tkM_get hf)).1
      rw [tkM_set hf] at h
      rw [← elo, ← ehi, ← ev]
      exact h
    clear hsf hfb
    generalize (tkM' fs i).eraseIdx i = er at hget hput
    refine s_ent (ob f.la f.lc (lm m.lo) :: ob f.ha f.hc (lm m.hi) :: ob f.va f.vc (lm m.v) :: stars lM er :: ol 35 a' c' (fs ++ [mg77]) :: .hb b8 35 (Cel.f f) :: H) (Ent.trans (H' := stars lM (tkM' fs i) :: ol 35 a' c' (fs ++ [mg77]) :: .hb b8 35 (Cel.f f) :: H) (by exact ent) (hget (R := ol 35 a' c' (fs ++ [mg77]) :: .hb b8 35 (Cel.f f) :: H))) ?_
    have hx3 : RSl w0 (ol 35 a' c' (fs ++ [mg77]) :: .hb b8 35 (Cel.f f) :: H) a c ms := hsl.tl.tl
    refine sx ?_
    refine s_drR (ob f.la f.lc (lm m.lo)) (by exact rm) (.one true 0 (.one true 1 (.one true 2 (.one true 3 (.one true 4 (.one true 5 (.one true 6 (.one false 7 (.one true 8 .nil))))))))) mixed (by kernel_rfl) ?_
    refine sx ?_
    refine s_rw (t := 97) (v' := .slice f.la m.lo.length f.lc) rfl (by rw [elo]) ?_
    refine s_call rfl (kept_s (xs := m.lo) (a' := f.la) (c' := f.lc) (H := ob f.ha f.hc (lm m.hi) :: ob f.va f.vc (lm m.v) :: stars lM er :: ol 35 a' c' (fs ++ [mg77]) :: .hb b8 35 (Cel.f f) :: H) hlo.tl.tl.tl.tl.tl) ?_
    rintro _ _ ⟨rfl, rfl⟩
    refine ⟨chk_held (by exact ent), ?_⟩
    refine sx ?_
    refine s_ent (ob f.ha f.hc (lm m.hi) :: ob f.la f.lc (lm (m.lo.map fx)) :: ob f.va f.vc (lm m.v) :: stars lM er :: ol 35 a' c' (fs ++ [mg77]) :: .hb b8 35 (Cel.f f) :: H) (by exact ent) ?_
    refine s_drR (ob f.ha f.hc (lm m.hi)) (by exact rm) (.one true 0 (.one true 1 (.one true 2 (.one true 3 (.one true 4 (.one true 5 (.one true 6 (.one false 7 (.one true 8 .nil))))))))) mixed (by kernel_rfl) ?_
    refine sx ?_
    refine s_rw (t := 105) (v' := .slice f.ha m.hi.length f.hc) rfl (by rw [ehi]) ?_
    refine s_call rfl (kept_s (xs := m.hi) (a' := f.ha) (c' := f.hc) (H := ob f.la f.lc (lm (m.lo.map fx)) :: ob f.va f.vc (lm m.v) :: stars lM er :: ol 35 a' c' (fs ++ [mg77]) :: .hb b8 35 (Cel.f f) :: H) hhi.tl.tl.tl.tl.tl) ?_
    rintro _ _ ⟨rfl, rfl⟩
    refine ⟨chk_held (by exact ent), ?_⟩
    refine sx ?_
    refine s_ent (ob f.va f.vc (lm m.v) :: ob f.ha f.hc (lm (m.hi.map fx)) :: ob f.la f.lc (lm (m.lo.map fx)) :: stars lM er :: ol 35 a' c' (fs ++ [mg77]) :: .hb b8 35 (Cel.f f) :: H) (by exact ent) ?_
    refine s_drR (ob f.va f.vc (lm m.v)) (by exact rm) (.one true 0 (.one true 1 (.one true 2 (.one true 3 (.one true 4 (.one true 5 (.one true 6 (.one false 7 (.one true 8 .nil))))))))) mixed (by kernel_rfl) ?_
    refine sx ?_
    refine s_rw (t := 113) (v' := .slice f.va m.v.length f.vc) rfl (by rw [ev]) ?_
    refine s_call rfl (kept_s (xs := m.v) (a' := f.va) (c' := f.vc) (H := ob f.ha f.hc (lm (m.hi.map fx)) :: ob f.la f.lc (lm (m.lo.map fx)) :: stars lM er :: ol 35 a' c' (fs ++ [mg77]) :: .hb b8 35 (Cel.f f) :: H) hv.tl.tl.tl.tl.tl) ?_
    rintro _ _ ⟨rfl, rfl⟩
    refine ⟨chk_held (by exact ent), ?_⟩
    refine sx ?_
    refine s_again (i + 1) (by omega) (by omega) (he := ?_)
    refine Ent.trans (H' := ob f.la f.lc (lm (m.lo.map fx)) :: ob f.ha f.hc (lm (m.hi.map fx)) :: ob f.va f.vc (lm (m.v.map fx)) :: stars lM er :: ol 35 a' c' (fs ++ [mg77]) :: .hb b8 35 (Cel.f f) :: H) (by exact ent) ?_
    refine (hput (R := ol 35 a' c' (fs ++ [mg77]) :: .hb b8 35 (Cel.f f) :: H)).trans ?_
    exact ent
  · obtain rfl : i = ms.length := by omega
    refine sx ?_
    refine s_ret1 rfl rfl ⟨rfl, rfl⟩ ?_
    have he : tkM' fs ms.length = fs.map fM := by
      rw [tkM', ← hl, List.take_length, List.drop_length, List.append_nil]
    rw [he]
    refine Ent.star (L := lMs a' c' (fs.map fM)) ?_
    show Ent _ (ol 35 a' c' (fs.map fM ++ [mg77]) :: stars lM (fs.map fM) :: H)
    rw [ol_fM]
    exact ent
theorem fM_md {fs ms : List Mg} (h : fs.map Mg.d = ms.map Mg.d) : (fs.map fM).map Mg.d = (ms.map Mg.d).map fD := by
  rw [← h, List.map_map, List.map_map]
  rfl
theorem turnedM_s {a : Option Addr} {c : Nat} {ms : List Mg} (hx : RMs w0 H a c ms) (hl : ms.length ≤ 549755813888) (hz : ∀ m ∈ ms, Zl m) :
    FnS Tryz.prog w0 H 62 #[.slice a ms.length c] (fun v H' => ∃ a' c' fs, v = .slice a' (fs : List Mg).length c' ∧ fs.map Mg.d = (ms.map Mg.d).map fD ∧ H' = .star (lMs a' c' fs) :: H) := by
  refine fns_enter Tryz.func62 rfl rfl rfl ?_
  refine sx ?_
  refine s_call rfl (lentM_s hx hl hz) ?_
  rintro _ _ ⟨a1, c1, fs, rfl, hfs, rfl⟩
  refine ⟨chk_seq, ?_⟩
  refine sx ?_
  refine s_call rfl (keptM_s hx hfs) ?_
  rintro _ _ ⟨rfl, rfl⟩
  refine ⟨chk_seq, ?_⟩
  refine sx ?_
  exact s_ret1 rfl rfl ⟨a1, c1, fs.map fM, by rw [List.length_map], fM_md hfs, rfl⟩
end Go.Sx

