/- Part of a proof: a node is lent. -/
import Derived.Test.YtkcabddbeclokaaGreatCW8j
namespace Go.Sx
open Go Go.Proofs
set_option maxRecDepth 10000
variable {w0 : World} {H : List Ck}
def mkB : Bs := [109, 97, 114, 107]
def mk2 : Bs := [167, 168]
def K2 (f : SB) : SB := ⟨f.a, f.c, f.xs ++ mk2⟩
def bMk (b : Nat) : SB := ⟨some ⟨b, 0, none⟩, 4, mkB⟩
def M2 (m : Mg) : Mg := ⟨m.st, m.kd, m.la, m.lc, m.lo ++ mk2, m.ha, m.hc, m.hi ++ mk2, m.va, m.vc, m.v ++ mk2⟩
def A3 (m : Mg) : List SB := [⟨m.la, m.lc, m.lo ++ mk2⟩, ⟨m.ha, m.hc, m.hi ++ mk2⟩, ⟨m.va, m.vc, m.v ++ mk2⟩]
def mg0 : Mg := ⟨70001, 0, none, 0, [], none, 0, [], none, 0, []⟩
/-- A loan: where its lists lie, the node as it is handed in. -/
structure Ln where
  pa : Option Addr
  pc : Nat
  ps : List Int
  pm : List Int
  ka : Option Addr
  kc : Nat
  fs : List SB
  mb : Nat
  ma : Option Addr
  mc : Nat
  ms : List Mg
  aa : Option Addr
  ac : Nat
def Ln.nd (L : Ln) : Nd := ⟨⟨L.pa, L.pc, L.ps, L.ka, L.kc, L.fs⟩, L.ma, L.mc, L.ms⟩
def Ln.als (L : Ln) : List SB := L.fs.map K2 ++ L.ms.flatMap A3
def Ln.cells (L : Ln) : List Value := [.slice L.pa L.ps.length L.pc, .slice L.ka L.fs.length L.kc, .slice L.ma L.ms.length L.mc, .slice L.pa (L.ps.length + 2) L.pc, .slice L.ka (L.fs.length + 1) L.kc, .slice L.ma (L.ms.length + 1) L.mc, .slice L.aa (L.fs.length + 3 * L.ms.length) L.ac]
def Ln.cs (L : Ln) : List Ck := [ol 3 L.pa L.pc (L.ps ++ L.pm), ol 44 L.ka L.kc (L.fs ++ [bMk L.mb]), ol 56 L.ma L.mc (L.ms ++ [mg0]), ol 44 L.aa L.ac L.als, fam 5 (L.fs.map K2), stars oM (L.ms.map M2), .ro L.mb (flat mkB)]
structure LnI where
  ka : Option Addr
  kc : Nat
  aa : Option Addr
  ac : Nat
  fs : List SB
structure LmI where
  ma : Option Addr
  mc : Nat
  aa : Option Addr
  ac : Nat
  ms : List Mg
theorem md_get {l : List Mg} {i : Nat} {m : Mg} (h : l[i]? = some m) : (l.map Mg.d)[i]? = some m.d := by rw [List.getElem?_map, h]; rfl
theorem a3_len (ms : List Mg) : (ms.flatMap A3).length = 3 * ms.length := by
  induction ms with
  | nil => rfl
  | cons m r ih => rw [List.flatMap_cons, List.length_append, ih, List.length_cons]; simp only [A3, List.length_cons, List.length_nil]; omega
theorem als_len {fs : List SB} {ms : List Mg} : (fs.map K2 ++ ms.flatMap A3).length = fs.length + 3 * ms.length := by
  rw [List.length_append, List.length_map, a3_len]
/-- A node whose lists and bytes are of a bounded length. -/
structure Nd.Lim (n : Nd) : Prop where
  ps : n.k.ps.length ≤ 4294967296
  ks : n.k.ks.length ≤ 4294967296
  ms : n.ms.length ≤ 4294967296
  kl : ∀ p ∈ n.k.ks, p.xs.length ≤ 4294967296
  ml : ∀ m ∈ n.ms, m.lo.length ≤ 4294967296 ∧ m.hi.length ≤ 4294967296 ∧ m.v.length ≤ 4294967296
set_option maxHeartbeats 4000000 in
theorem nlend_s {n : Nd} (hn : RNd w0 H n) (hf : n.Lim) :
    FnS Tryz.prog w0 H 6 #[.agg n.cells.toArray] (fun v H' => ∃ L : Ln, v = .agg L.cells.toArray ∧ L.pm = [70001, 70002] ∧ L.nd.k.d = n.k.d ∧ L.nd.md = n.md ∧ H' = .star L.cs :: H) := by
  refine fns_enter Tryz.func6 rfl rfl rfl ?_
  have hk := hn.k
  have hps := hk.ps
  have hks := hk.ks
  have hp1 := hf.ps
  have hp2 := hf.ks
  have hp3 := hf.ms
  refine sx ?_
  refine s_boxA rfl fun b1 => ?_
  refine sx ?_
  refine s_alloc fun b2 => ?_
  refine sx ?_
  refine s_bsl ([] : List Int) rfl rfl fun b11 => ?_
  refine sx ?_
  refine s_rw (t := 13) (v' := .pointer (some ((⟨b1, 0, none⟩ : Addr).add 0))) rfl rfl ?_
  refine sx ?_
  refine s_app ?_ (ys := n.k.ps)
  intro a15 c15
  refine s_bsl ([70001, 70002] : List Int) rfl rfl fun b16 => ?_
  refine s_app ?_
  intro pa pc
  refine s_rw (t := 17) (v' := .slice pa (n.k.ps.length + 2) pc) rfl (by simp) ?_
  refine sx ?_
  refine s_alloc fun b3 => ?_
  refine sx ?_
  refine s_loop (fun i : LnI => [(1, .pointer (some ⟨b1, 0, none⟩)), (2, .pointer (some ⟨b2, 0, none⟩)), (3, .pointer (some ⟨b3, 0, none⟩)), (4, .int .i64 i.fs.length)]) (fun i => .hb b3 38 [.slice none 0 0, .slice none 0 0, .slice none 0 0, .slice pa (n.k.ps.length + 2) pc, .slice i.ka i.fs.length i.kc, .slice none 0 0, .slice i.aa i.fs.length i.ac] :: ol 3 pa pc (n.k.ps ++ [70001, 70002]) :: ol 44 i.ka i.kc i.fs :: ol 44 i.aa i.ac (i.fs.map K2) :: fam 5 (i.fs.map K2) :: .hb b1 28 n.cells :: .hb b2 38 [.slice none 0 0, .slice none 0 0, .slice none 0 0, .slice none 0 0, .slice none 0 0, .slice none 0 0, .slice none 0 0] :: H)
    (fun i => i.fs.length ≤ n.k.ks.length ∧ i.fs.map SB.xs = n.k.keys.take i.fs.length) (fun i => n.k.ks.length - i.fs.length) ⟨none, 0, none, 0, []⟩ ⟨Nat.zero_le _, rfl⟩ ?_ (he := by
      refine Ent.cons (by exact rm) ?_
      refine Ent.cons (by exact rm) ?_
      exact Ent.nilS.trans (Ent.head (Ent.nilS.trans (Ent.head (fam_nil.trans (Ent.head ent))))))
  rintro ⟨ka, kc, aa, ac, fs⟩ ⟨h1, h2⟩
  simp only at h1 h2 ⊢
  have hfl : (fs.map K2).length = fs.length := List.length_map ..
  refine sx ?_
  refine s_rw (t := 21) (v' := .pointer (some ((⟨b1, 0, none⟩ : Addr).add 1))) rfl rfl ?_
  refine sx ?_
  refine s_if rfl (fun t1 => ?_) (fun t1 => ?_)
  · have t1 : (fs.length : Int) < (n.k.ks.length : Int) := t1
    obtain ⟨p, hp⟩ := get_lt n.k.ks fs.length (by omega)
    have hkp := Kd.kget hp
    have hpl := hk.el _ (List.mem_of_getElem? hp)
    have hpk := hf.kl _ (List.mem_of_getElem? hp)
    refine sx ?_
    refine s_rw (t := 28) (v' := .pointer (some ((⟨b1, 0, none⟩ : Addr).add 1))) rfl rfl ?_
    refine sx ?_
    refine s_call rfl (nmarked_s (a := p.a) (c := p.c) (xs := p.xs) (by exact rby) (by omega)) ?_
    rintro _ _ ⟨a5, c5, rfl, rfl⟩
    have e5 : (p.xs ++ [167, 168]).length = p.xs.length + 2 := by simp
    refine ⟨chk_seq, ?_⟩
    refine s_knL (Kn.by (a := a5) (c := c5) (xs := p.xs ++ [167, 168]) (by exact rby)) fun m5 => ?_
    simp only [maxLen] at m5
    refine sx ?_
    refine s_bsl [K2 ⟨a5, c5, p.xs⟩] rfl rfl fun b37 => ?_
    refine s_app ?_
    intro aa2 ac2
    refine s_rw (t := 38) (v' := .slice aa2 (fs.length + 1) ac2) rfl (by simp) ?_
    refine sx ?_
    refine s_drU (.hb b3 38 [.slice none 0 0, .slice none 0 0, .slice none 0 0, .slice pa (n.k.ps.length + 2) pc, .slice ka fs.length kc, .slice none 0 0, .slice aa2 (fs.length + 1) ac2] :: H) (.one true 0 (.one true 1 (.one true 2 (.one true 3 (.one true 4 (.one true 5 (.one true 6 (.one false 7 .nil)))))))) (.one false 8 (.one true 9 (.one false 10 .nil))) [8, 10] #[true, true, true, true, true, true, true, true, false, false, false] mixed (by kernel_rfl) ?_
    refine sx ?_
    refine s_rw (t := 45) rfl (ci (by omega : _ = ((p.xs.length : Nat) : Int))) ?_
    refine sx ?_
    refine s_bsl [(⟨a5, c5, p.xs⟩ : SB)] rfl rfl fun b47 => ?_
    refine sx ?_
    refine s_bar ?_
    refine sx ?_
    refine s_app ?_
    intro ka2 kc2
    refine s_rw (t := 48) (v' := .slice ka2 (fs.length + 1) kc2) rfl (by simp) ?_
    refine sx ?_
    refine s_rwQ (t := 4) rfl (ci (by rw [List.length_append]; rfl : _ = (((fs ++ [(⟨a5, c5, p.xs⟩ : SB)]).length : Nat) : Int))) ?_
    refine s_again ⟨ka2, kc2, aa2, ac2, fs ++ [⟨a5, c5, p.xs⟩]⟩ ⟨by simp only [List.length_append, List.length_singleton]; omega, by rw [List.map_append, h2, List.length_append, List.length_singleton, snocT hkp]; rfl⟩ (by simp only [List.length_append, List.length_singleton]; omega) (he := ?_)
    simp only [List.map_append, List.length_append, List.length_singleton]
    refine Ent.cons (by exact rm) ?_
    refine Ent.cons (by exact rm) ?_
    refine Ent.cons (by exact rm) ?_
    refine Ent.cons (by exact rm) ?_
    refine Ent.famS (by exact rm) (by exact rm) ?_
    exact ent
  obtain e : fs.length = n.k.ks.length := by omega
  have h2 : fs.map SB.xs = n.k.keys := by rw [h2, e]; exact List.take_of_length_le (by simp [Kd.keys])
  refine sx ?_
  refine s_bsl mkB rfl rfl fun c1 => ?_
  refine s_convb rfl (by exact at_) ?_
  refine s_bsl [bMk c1] rfl rfl fun c54 => ?_
  refine s_app ?_
  clear hfl h1 t1
  revert ka kc
  intro _ _ ka kc
  refine s_rw (t := 55) (v' := .slice ka (fs.length + 1) kc) rfl (by simp) ?_
  have hms := hn.ms
  have hmsl := hms.sl
  refine sx ?_
  refine s_loop (fun i : LmI => [(1, .pointer (some ⟨b1, 0, none⟩)), (2, .pointer (some ⟨b2, 0, none⟩)), (3, .pointer (some ⟨b3, 0, none⟩)), (6, .int .i64 i.ms.length)]) (fun i => .hb b3 38 [.slice none 0 0, .slice none 0 0, .slice none 0 0, .slice pa (n.k.ps.length + 2) pc, .slice ka (fs.length + 1) kc, .slice i.ma i.ms.length i.mc, .slice i.aa (fs.length + 3 * i.ms.length) i.ac] :: ol 3 pa pc (n.k.ps ++ [70001, 70002]) :: ol 44 ka kc (fs ++ [bMk c1]) :: ol 56 i.ma i.mc i.ms :: ol 44 i.aa i.ac (fs.map K2 ++ i.ms.flatMap A3) :: fam 5 (fs.map K2) :: stars oM (i.ms.map M2) :: .ro c1 (flat mkB) :: .hb b1 28 n.cells :: .hb b2 38 [.slice none 0 0, .slice none 0 0, .slice none 0 0, .slice none 0 0, .slice none 0 0, .slice none 0 0, .slice none 0 0] :: H)
    (fun i => i.ms.length ≤ n.ms.length ∧ i.ms.map Mg.d = n.md.take i.ms.length) (fun i => n.ms.length - i.ms.length) ⟨none, 0, aa, ac, []⟩ ⟨Nat.zero_le _, rfl⟩ ?_ (he := by
      refine Ent.cons (by exact rm) ?_
      refine Ent.cons (by exact rm) ?_
      refine Ent.cons (by exact rm) ?_
      refine Ent.nilS.trans (Ent.head ?_)
      rw [show fs.map K2 ++ ([] : List Mg).flatMap A3 = fs.map K2 by simp]
      refine Ent.cons (by exact rm) ?_
      refine Ent.cons (by exact rm) ?_
      refine Ent.trans ?_ (Ent.star (L := []) Ent.refl)
      exact ent)
  rintro ⟨ma, mc, aa, ac, ms⟩ ⟨h1, h3⟩
  simp only at h1 h3 ⊢
  have ha3 := a3_len ms
  have hfk : (fs.map K2).length = fs.length := List.length_map ..
  have hal : (fs.map K2 ++ ms.flatMap A3).length = fs.length + 3 * ms.length := als_len
  refine sx ?_
  refine s_if rfl (fun t2 => ?_) (fun t2 => ?_)
  · have t2 : (ms.length : Int) < (n.ms.length : Int) := t2
    obtain ⟨m, hm⟩ := get_lt n.ms ms.length (by omega)
    have hme := hms.el _ (List.mem_of_getElem? hm)
    have hml := hf.ml _ (List.mem_of_getElem? hm)
    have hlo := hme.lo
    have hhi := hme.hi
    have hv := hme.v
    refine sx ?_
    refine s_alloc fun b7 => ?_
    refine sx ?_
    refine s_call rfl (nmarked_s (a := m.la) (c := m.lc) (xs := m.lo) (by exact rby) (by omega)) ?_
    rintro _ _ ⟨a8, c8, rfl, rfl⟩
    have e8 : (m.lo ++ [167, 168]).length = m.lo.length + 2 := by simp
    refine ⟨chk_seq, ?_⟩
    refine s_knL (Kn.by (a := a8) (c := c8) (xs := m.lo ++ [167, 168]) (by exact rby)) fun m8 => ?_
    simp only [maxLen] at m8
    refine sx ?_
    refine s_call rfl (nmarked_s (a := m.ha) (c := m.hc) (xs := m.hi) (by exact rby) (by omega)) ?_
    rintro _ _ ⟨a9, c9, rfl, rfl⟩
    have e9 : (m.hi ++ [167, 168]).length = m.hi.length + 2 := by simp
    refine ⟨chk_seq, ?_⟩
    refine s_knL (Kn.by (a := a9) (c := c9) (xs := m.hi ++ [167, 168]) (by exact rby)) fun m9 => ?_
    simp only [maxLen] at m9
    refine sx ?_
    refine s_call rfl (nmarked_s (a := m.va) (c := m.vc) (xs := m.v) (by exact rby) (by omega)) ?_
    rintro _ _ ⟨a10, c10, rfl, rfl⟩
    have e10 : (m.v ++ [167, 168]).length = m.v.length + 2 := by simp
    refine ⟨chk_seq, ?_⟩
    refine s_knL (Kn.by (a := a10) (c := c10) (xs := m.v ++ [167, 168]) (by exact rby)) fun m10 => ?_
    simp only [maxLen] at m10
    refine sx ?_
    refine s_bsl [(⟨a8, c8, m.lo ++ mk2⟩ : SB), ⟨a9, c9, m.hi ++ mk2⟩, ⟨a10, c10, m.v ++ mk2⟩] rfl rfl fun b83 => ?_
    refine s_app ?_
    intro aa2 ac2
    refine s_rw (t := 84) (v' := .slice aa2 (fs.length + 3 * (ms.length + 1)) ac2) rfl (by rw [List.length_append, hal]; rfl) ?_
    refine sx ?_
    refine s_drU (.hb b3 38 [.slice none 0 0, .slice none 0 0, .slice none 0 0, .slice pa (n.k.ps.length + 2) pc, .slice ka (fs.length + 1) kc, .slice ma ms.length mc, .slice aa2 (fs.length + 3 * (ms.length + 1)) ac2] :: .hb b7 56 m.cells :: H) (.one true 0 (.one true 1 (.one true 2 (.one true 3 (.one true 4 (.one true 5 (.one true 6 (.one true 7 (.one true 8 (.one true 9 (.one true 10 (.one true 11 (.one true 12 (.one true 13 (.one true 14 (.one true 15 (.one true 16 (.one true 17 (.one true 18 (.one true 19 (.one true 20 (.one true 21 (.one false 22 .nil))))))))))))))))))))))) (.one false 23 (.one true 24 (.one false 25 .nil))) [23, 25] #[true, true, true, true, true, true, true, true, true, true, true, true, true, true, true, true, true, true, true, true, true, true, true, false, false, false] mixed (by kernel_rfl) ?_
    refine sx ?_
    refine s_rw (t := 95) rfl (ci (by omega : _ = ((m.lo.length : Nat) : Int))) ?_
    refine sx ?_
    refine s_rw (t := 100) rfl (ci (by omega : _ = ((m.hi.length : Nat) : Int))) ?_
    refine sx ?_
    refine s_rw (t := 105) rfl (ci (by omega : _ = ((m.v.length : Nat) : Int))) ?_
    refine sx ?_
    refine s_bsl [(⟨m.st, m.kd, a8, c8, m.lo, a9, c9, m.hi, a10, c10, m.v⟩ : Mg)] rfl rfl fun b108 => ?_
    refine sx ?_
    refine s_bar ?_
    refine sx ?_
    refine s_app ?_
    intro ma2 mc2
    refine s_rw (t := 109) (v' := .slice ma2 (ms.length + 1) mc2) rfl (by simp) ?_
    refine sx ?_
    refine s_rwQ (t := 6) rfl (ci (by rw [List.length_append]; rfl : _ = (((ms ++ [(⟨m.st, m.kd, a8, c8, m.lo, a9, c9, m.hi, a10, c10, m.v⟩ : Mg)]).length : Nat) : Int))) ?_
    refine s_again ⟨ma2, mc2, aa2, ac2, ms ++ [(⟨m.st, m.kd, a8, c8, m.lo, a9, c9, m.hi, a10, c10, m.v⟩ : Mg)]⟩ ⟨by simp only [List.length_append, List.length_singleton]; omega, by rw [List.map_append, h3, List.length_append, List.length_singleton, snocT (md_get hm)]; rfl⟩ (by simp only [List.length_append, List.length_singleton]; omega) (he := ?_)
    rw [show fs.map K2 ++ (ms ++ [(⟨m.st, m.kd, a8, c8, m.lo, a9, c9, m.hi, a10, c10, m.v⟩ : Mg)]).flatMap A3 = fs.map K2 ++ ms.flatMap A3 ++ A3 (⟨m.st, m.kd, a8, c8, m.lo, a9, c9, m.hi, a10, c10, m.v⟩ : Mg) by simp]
    simp only [List.map_append, List.length_append, List.length_singleton]
    refine Ent.cons (by exact rm) (Ent.cons (by exact rm) (Ent.cons (by exact rm) (Ent.cons (by exact rm) (Ent.cons (by exact rm) (Ent.cons (by exact rm) ?_)))))
    exact Ent.trans (H' := ob a8 c8 (m.lo ++ mk2) :: ob a9 c9 (m.hi ++ mk2) :: ob a10 c10 (m.v ++ mk2) :: stars oM (ms.map M2) :: .ro c1 (flat mkB) :: .hb b1 28 n.cells :: .hb b2 38 [.slice none 0 0, .slice none 0 0, .slice none 0 0, .slice none 0 0, .slice none 0 0, .slice none 0 0, .slice none 0 0] :: H) (by exact ent) (stars_snoc (f := oM) (s := M2 (⟨m.st, m.kd, a8, c8, m.lo, a9, c9, m.hi, a10, c10, m.v⟩ : Mg)))
  obtain em : ms.length = n.ms.length := by omega
  have h3 : ms.map Mg.d = n.md := by rw [h3, em]; exact List.take_of_length_le (by simp [Nd.md])
  refine sx ?_
  refine s_bsl [mg0] rfl rfl fun b114 => ?_
  refine s_app ?_
  clear h1 t2
  revert ma mc
  intro _ _ ma mc
  refine s_rw (t := 115) (v' := .slice ma (ms.length + 1) mc) rfl (by simp) ?_
  refine sx ?_
  have lp : (n.k.ps ++ [70001, 70002] : List Int).length = n.k.ps.length + 2 := by simp
  have lk : (fs ++ [bMk c1]).length = fs.length + 1 := by simp
  have lm : (ms ++ [mg0]).length = ms.length + 1 := by simp
  refine s_kn (Kn.sl (a := pa) (c := pc) (xs := n.k.ps ++ [70001, 70002]) (by exact rsl)) fun cp => ?_
  refine s_kn (Kn.sl (a := ka) (c := kc) (xs := fs ++ [bMk c1]) (by exact rsl)) fun ck => ?_
  refine s_kn (Kn.sl (a := ma) (c := mc) (xs := ms ++ [mg0]) (by exact rsl)) fun cm => ?_
  simp only [maxLen] at cp ck cm
  refine sx ?_
  refine s_drU (.hb b3 38 [.slice none 0 0, .slice none 0 0, .slice none 0 0, .slice pa (n.k.ps.length + 2) pc, .slice ka (fs.length + 1) kc, .slice ma (ms.length + 1) mc, .slice aa (fs.length + 3 * ms.length) ac] :: .hb b1 28 n.cells :: H) (.one true 0 (.one true 1 (.one true 2 (.one true 3 (.one true 4 (.one true 5 (.one true 6 (.one true 7 (.one true 8 (.one true 9 (.one true 10 (.one true 11 (.one true 12 (.one true 13 (.one true 14 (.one true 15 (.one true 16 (.one true 17 (.one true 18 (.one true 19 (.one true 20 (.one true 21 (.one true 22 .nil))))))))))))))))))))))) (.one false 23 .nil) [23] #[true, true, true, true, true, true, true, true, true, true, true, true, true, true, true, true, true, true, true, true, true, true, true, false] mixed (by kernel_rfl) ?_
  refine sx ?_
  refine s_rw (t := 120) (v' := .pointer (some ((⟨b1, 0, none⟩ : Addr).add 0))) rfl rfl ?_
  refine sx ?_
  refine s_rw (t := 127) (v' := .pointer (some ((⟨b1, 0, none⟩ : Addr).add 1))) rfl rfl ?_
  refine sx ?_
  refine s_bar ?_
  refine sx ?_
  refine s_retc rfl rfl (by exact at_) (by exact rfl) ⟨⟨pa, pc, n.k.ps, [70001, 70002], ka, kc, fs, c1, ma, mc, ms, aa, ac⟩, ?_, rfl, ?_, h3, rfl⟩ (Ent.tl (Ent.tl (Ent.star (Ent.head (Ent.head (Ent.head (Ent.head (Ent.head (Ent.head (Ent.head (Ent.tl (Ent.tl Ent.refl))))))))))))
  · simp only [Ln.cells, e, em]
    rfl
  · show (n.k.ps, fs.map SB.xs) = _
    rw [h2]
end Go.Sx
