/- Part of a proof: what is lent is written over by its owner. -/
import Derived.Test.YtkcabddbeclokaaGreatCWS
namespace Go.Sx
open Go Go.Proofs
set_option maxRecDepth 10000
variable {w0 : World} {H : List Ck}
def tV (v : Bs) : Bs := v.map (· ^^^ 85)
def TM (m : Mg) : Mg := ⟨IntKind.u64.wrap (m.st + 1), m.kd, m.la, m.lc, m.lo, m.ha, m.hc, m.hi, m.va, m.vc, tV m.v⟩
def tD (d : MD) : MD := ⟨IntKind.u64.wrap (d.st + 1), d.kd, d.lo, d.hi, tV d.v⟩
/-- A loan that its owner has written over. -/
def Ln.turn (L : Ln) : Ln := ⟨L.pa, L.pc, L.ps.map xI, L.pm.map xI, L.ka, L.kc, L.fs, L.mb, L.ma, L.mc, L.ms.map TM, L.aa, L.ac⟩
theorem als_turn {aa : Option Addr} {ac : Nat} {fs : List SB} {ms : List Mg} : ol 44 aa ac (fs.map K2 ++ ms.flatMap A3) = ol 44 aa ac (fs.map K2 ++ (ms.map TM).flatMap A3) := by
  have e1 : flat (ms.flatMap A3) = flat ((ms.map TM).flatMap A3) := by
    induction ms with
    | nil => rfl
    | cons m r ih =>
      simp only [List.map_cons, List.flatMap_cons, flat, List.flatMap_append] at ih ⊢
      rw [ih]
      simp [A3, TM, tV, Cel.f, SB.val]
  have e2 : flat (fs.map K2 ++ ms.flatMap A3) = flat (fs.map K2 ++ (ms.map TM).flatMap A3) := by
    simp only [flat, List.flatMap_append] at e1 ⊢
    rw [e1]
  have e3 : (fs.map K2 ++ ms.flatMap A3).length = (fs.map K2 ++ (ms.map TM).flatMap A3).length := by rw [als_len, als_len, List.length_map]
  simp only [ol, e2, e3]
theorem s_subL {P : Program} {n : Nat} {ds : List Deferred} {Q : Exit → Act → World → Prop} {l l' : List (Nat × Value)} {M : Md} {ops : Array Oper} {rest : Tr} (h : SL M P n ds ops Q rest l' w0 H) (hs : Sub l' l) : SL M P n ds ops Q rest l w0 H := .mk fun w hw => .mk fun a ha => (h.out w hw).out a (ha.sub hs)
theorem s_join6 {P : Option Addr → Nat → Option Addr → Nat → Option Addr → Nat → Prop} {G : Prop} (main : KeyU (∀ a c a' c' a2 c2, P a c a' c' a2 c2) → G) (key : ∀ a c a' c' a2 c2, P a c a' c' a2 c2) : G := main ⟨key⟩
structure CpI where
  a : Option Addr
  c : Nat
  cs : List SB
structure CqI where
  a : Option Addr
  c : Nat
  qs : List Mg
set_option maxHeartbeats 4000000 in
theorem nturn_s {L : Ln} (hpm : L.pm.length = 2) (hf : L.nd.Lim) : FnS Tryz.prog w0 (.star L.cs :: H) 9 #[.agg L.cells.toArray] (fun v H' => ∃ q : Nd, v = .agg q.cells.toArray ∧ q.k.d = L.turn.nd.k.d ∧ q.md = L.turn.nd.md ∧ H' = oN q (.star L.turn.cs :: H)) := by
  refine fns_enter Tryz.func9 rfl rfl rfl ?_
  obtain ⟨pa, pc, ps, pm, ka, kc, fs, mb, ma, mc, ms, aa, ac⟩ := L
  have hp1 := hf.ps
  have hp2 := hf.ks
  have hp3 := hf.ms
  have hkl := hf.kl
  have hml := hf.ml
  simp only [Ln.nd] at hp1 hp2 hp3 hkl hml
  simp only at hpm
  have lp : (ps ++ pm).length = ps.length + 2 := by rw [List.length_append, hpm]
  refine s_ent (ol 3 pa pc (ps ++ pm) :: ol 44 ka kc (fs ++ [bMk mb]) :: ol 56 ma mc (ms ++ [mg0]) :: ol 44 aa ac (fs.map K2 ++ ms.flatMap A3) :: fam 5 (fs.map K2) :: stars oM (ms.map M2) :: .ro mb (flat mkB) :: H) (Ent.open Ent.refl) ?_
  refine s_kn (φ := ∃ ad, pa = some ad) (fun w hw => own_gA (c := pc) (Sat.ownOf (c' := ol 3 pa pc (ps ++ pm)) .hd hw) (by omega)) ?_
  rintro ⟨ad, rfl⟩
  refine sx ?_
  refine s_boxA (cs := [.slice (some ad) ps.length pc, .slice ka fs.length kc, .slice ma ms.length mc, .slice (some ad) (ps.length + 2) pc, .slice ka (fs.length + 1) kc, .slice ma (ms.length + 1) mc, .slice aa (fs.length + 3 * ms.length) ac]) rfl fun b1 => ?_
  refine sx ?_
  refine s_alloc fun b2 => ?_
  refine sx ?_
  refine s_loop (fun i : Nat => [(1, .pointer (some ⟨b1, 0, none⟩)), (2, .pointer (some ⟨b2, 0, none⟩)), (3, .int .i64 i)]) (fun i => .hb b1 38 [.slice (some ad) ps.length pc, .slice ka fs.length kc, .slice ma ms.length mc, .slice (some ad) (ps.length + 2) pc, .slice ka (fs.length + 1) kc, .slice ma (ms.length + 1) mc, .slice aa (fs.length + 3 * ms.length) ac] :: ol 3 (some ad) pc (tkd xI (ps ++ pm) i) :: ol 44 ka kc (fs ++ [bMk mb]) :: ol 56 ma mc (ms ++ [mg0]) :: ol 44 aa ac (fs.map K2 ++ ms.flatMap A3) :: fam 5 (fs.map K2) :: stars oM (ms.map M2) :: .ro mb (flat mkB) :: .hb b2 28 [.slice none 0 0, .slice none 0 0, .slice none 0 0] :: H) (fun i => i ≤ ps.length + 2) (fun i => ps.length + 2 - i) 0 (Nat.zero_le _) ?_ (he := by rw [tkd_0]; exact ent)
  intro i hi
  have htl := tkd_len xI (ps ++ pm) i
  refine sx ?_
  refine s_if rfl (fun t1 => ?_) (fun t1 => ?_)
  · have t1 : (i : Int) < ((ps.length + 2 : Nat) : Int) := t1
    obtain ⟨p, hp⟩ := get_lt (ps ++ pm) i (by omega)
    have hup := tkd_get (f := xI) hp
    refine sx ?_
    refine s_drU (.hb b1 38 [.slice (some ad) ps.length pc, .slice ka fs.length kc, .slice ma ms.length mc, .slice (some ad) (ps.length + 2) pc, .slice ka (fs.length + 1) kc, .slice ma (ms.length + 1) mc, .slice aa (fs.length + 3 * ms.length) ac] :: ol 3 (some ad) pc (tkd xI (ps ++ pm) i) :: H) (.one true 0 (.one true 1 (.one true 2 (.one true 3 (.one true 4 (.one true 5 (.one true 6 (.one true 7 (.one true 8 (.one true 9 .nil)))))))))) (.one false 10 .nil) [10] #[true, true, true, true, true, true, true, true, true, true, false] mixed (by kernel_rfl) ?_
    refine sx ?_
    refine s_yH rfl rfl rfl (y_xori rfl rfl) ?_
    refine sx ?_
    refine s_bar ?_
    refine sx ?_
    refine s_set1 (y := xI p) (i := i) rfl rfl (by exact at_) rfl (by omega) ?_
    refine sx ?_
    refine s_again (i + 1) (by omega) (by omega) (he := ?_)
    rw [tkd_set hp]
    exact ent
  have t1 : ¬ (i : Int) < ((ps.length + 2 : Nat) : Int) := t1
  rw [tkd_all (f := xI) (l := ps ++ pm) (i := i) (by omega)]
  clear htl hi t1
  refine sx ?_
  refine s_loop (fun j : Nat => [(1, .pointer (some ⟨b1, 0, none⟩)), (2, .pointer (some ⟨b2, 0, none⟩)), (4, .int .i64 j)]) (fun j => .hb b1 38 [.slice (some ad) ps.length pc, .slice ka fs.length kc, .slice ma ms.length mc, .slice (some ad) (ps.length + 2) pc, .slice ka (fs.length + 1) kc, .slice ma (ms.length + 1) mc, .slice aa (fs.length + 3 * ms.length) ac] :: ol 3 (some ad) pc ((ps ++ pm).map xI) :: ol 44 ka kc (fs ++ [bMk mb]) :: ol 56 ma mc ((tkd TM ms j) ++ [mg0]) :: ol 44 aa ac (fs.map K2 ++ ms.flatMap A3) :: fam 5 (fs.map K2) :: stars oM (((ms.map TM).map M2).take j) :: stars oM ((ms.map M2).drop j) :: .ro mb (flat mkB) :: .hb b2 28 [.slice none 0 0, .slice none 0 0, .slice none 0 0] :: H) (fun j => j ≤ ms.length) (fun j => ms.length - j) 0 (Nat.zero_le _) ?_ (he := by
    rw [tkd_0, List.take_zero, List.drop_zero]
    refine Ent.cons (by exact rm) (Ent.cons (by exact rm) (Ent.cons (by exact rm) (Ent.cons (by exact rm) (Ent.cons (by exact rm) (Ent.cons (by exact rm) ?_)))))
    exact stars_nil)
  intro j hj
  have hmt := tkd_len TM ms j
  have hml0 : (tkd TM ms j ++ [mg0]).length = ms.length + 1 := by rw [List.length_append, hmt]; rfl
  refine sx ?_
  refine s_if rfl (fun t2 => ?_) (fun t2 => ?_)
  · have t2 : (j : Int) + 1 < ((ms.length + 1 : Nat) : Int) := t2
    obtain ⟨m, hm⟩ := get_lt ms j (by omega)
    have hmx : (tkd TM ms j ++ [mg0])[j]? = some m := by rw [List.getElem?_append_left (by omega)]; exact tkd_get hm
    have hmm := hml m (List.mem_of_getElem? hm)
    refine s_ent (ob m.va m.vc (m.v ++ mk2) :: ob m.la m.lc (m.lo ++ mk2) :: ob m.ha m.hc (m.hi ++ mk2) :: .hb b1 38 [.slice (some ad) ps.length pc, .slice ka fs.length kc, .slice ma ms.length mc, .slice (some ad) (ps.length + 2) pc, .slice ka (fs.length + 1) kc, .slice ma (ms.length + 1) mc, .slice aa (fs.length + 3 * ms.length) ac] :: ol 3 (some ad) pc ((ps ++ pm).map xI) :: ol 44 ka kc (fs ++ [bMk mb]) :: ol 56 ma mc ((tkd TM ms j) ++ [mg0]) :: ol 44 aa ac (fs.map K2 ++ ms.flatMap A3) :: fam 5 (fs.map K2) :: stars oM (((ms.map TM).map M2).take j) :: stars oM ((ms.map M2).drop (j + 1)) :: .ro mb (flat mkB) :: .hb b2 28 [.slice none 0 0, .slice none 0 0, .slice none 0 0] :: H) (by
      rw [show (ms.map M2).drop j = M2 m :: (ms.map M2).drop (j + 1) from dropG (by rw [List.getElem?_map, hm]; rfl)]
      refine Ent.trans (H' := stars oM (M2 m :: (ms.map M2).drop (j + 1)) :: .hb b1 38 [.slice (some ad) ps.length pc, .slice ka fs.length kc, .slice ma ms.length mc, .slice (some ad) (ps.length + 2) pc, .slice ka (fs.length + 1) kc, .slice ma (ms.length + 1) mc, .slice aa (fs.length + 3 * ms.length) ac] :: ol 3 (some ad) pc ((ps ++ pm).map xI) :: ol 44 ka kc (fs ++ [bMk mb]) :: ol 56 ma mc ((tkd TM ms j) ++ [mg0]) :: ol 44 aa ac (fs.map K2 ++ ms.flatMap A3) :: fam 5 (fs.map K2) :: stars oM (((ms.map TM).map M2).take j) :: .ro mb (flat mkB) :: .hb b2 28 [.slice none 0 0, .slice none 0 0, .slice none 0 0] :: H) (by exact ent) ?_
      exact Ent.trans (H' := ob m.la m.lc (m.lo ++ mk2) :: ob m.ha m.hc (m.hi ++ mk2) :: ob m.va m.vc (m.v ++ mk2) :: stars oM ((ms.map M2).drop (j + 1)) :: .hb b1 38 [.slice (some ad) ps.length pc, .slice ka fs.length kc, .slice ma ms.length mc, .slice (some ad) (ps.length + 2) pc, .slice ka (fs.length + 1) kc, .slice ma (ms.length + 1) mc, .slice aa (fs.length + 3 * ms.length) ac] :: ol 3 (some ad) pc ((ps ++ pm).map xI) :: ol 44 ka kc (fs ++ [bMk mb]) :: ol 56 ma mc ((tkd TM ms j) ++ [mg0]) :: ol 44 aa ac (fs.map K2 ++ ms.flatMap A3) :: fam 5 (fs.map K2) :: stars oM (((ms.map TM).map M2).take j) :: .ro mb (flat mkB) :: .hb b2 28 [.slice none 0 0, .slice none 0 0, .slice none 0 0] :: H) stars_cons (by exact ent)) ?_
    refine sx ?_
    refine s_kn (Kn.by (a := m.va) (c := m.vc) (xs := m.v ++ mk2) (by exact rby)) fun cv => ?_
    simp only [maxLen, List.length_append] at cv
    refine s_loop (fun k : Nat => [(1, .pointer (some ⟨b1, 0, none⟩)), (2, .pointer (some ⟨b2, 0, none⟩)), (4, .int .i64 j), (5, .slice m.va m.v.length m.vc), (6, .int .i64 k)]) (fun k => ob m.va m.vc (tkd (· ^^^ 85) m.v k ++ mk2) :: ob m.la m.lc (m.lo ++ mk2) :: ob m.ha m.hc (m.hi ++ mk2) :: .hb b1 38 [.slice (some ad) ps.length pc, .slice ka fs.length kc, .slice ma ms.length mc, .slice (some ad) (ps.length + 2) pc, .slice ka (fs.length + 1) kc, .slice ma (ms.length + 1) mc, .slice aa (fs.length + 3 * ms.length) ac] :: ol 3 (some ad) pc ((ps ++ pm).map xI) :: ol 44 ka kc (fs ++ [bMk mb]) :: ol 56 ma mc ((tkd TM ms j) ++ [mg0]) :: ol 44 aa ac (fs.map K2 ++ ms.flatMap A3) :: fam 5 (fs.map K2) :: stars oM (((ms.map TM).map M2).take j) :: stars oM ((ms.map M2).drop (j + 1)) :: .ro mb (flat mkB) :: .hb b2 28 [.slice none 0 0, .slice none 0 0, .slice none 0 0] :: H) (fun k => k ≤ m.v.length) (fun k => m.v.length - k) 0 (Nat.zero_le _) ?_ (he := by rw [tkd_0]; exact Ent.refl)
    intro k hk
    have hkt := tkd_len (· ^^^ 85) m.v k
    have hkl0 : (tkd (· ^^^ 85) m.v k ++ mk2).length = m.v.length + 2 := by rw [List.length_append, hkt]; rfl
    refine sx ?_
    refine s_if rfl (fun t3 => ?_) (fun t3 => ?_)
    · have t3 : (k : Int) < (m.v.length : Int) := t3
      obtain ⟨u, hu⟩ := get_lt m.v k (by omega)
      have hux : (tkd (· ^^^ 85) m.v k ++ mk2)[k]? = some u := by rw [List.getElem?_append_left (by omega)]; exact tkd_get hu
      have hug : (tkd (· ^^^ 85) m.v k ++ mk2).getD k 0 = u := by rw [List.getD_eq_getElem?_getD, hux]; rfl
      refine sx ?_
      refine s_yS rfl rfl rfl (y_xorb (b := 85) rfl rfl) ?_
      refine sx ?_
      refine s_set1g (i := k) (y := (tkd (· ^^^ 85) m.v k ++ mk2).getD k 0 ^^^ 85) rfl rfl (by exact at_) rfl (by omega) ?_
      refine sx ?_
      refine s_again (k + 1) (by omega) (by omega) (he := ?_)
      rw [hug, List.set_append_left _ _ (by omega), tkd_set (f := (· ^^^ 85)) hu]
      exact ent
    obtain rfl : k = m.v.length := by omega
    rw [tkd_all (f := (· ^^^ 85)) (l := m.v) (Nat.le_refl _)]
    clear hkt hkl0 hk t3
    refine s_kn (φ := ∃ ad, ma = some ad) (fun w hw => own_gA (c := mc) (Sat.ownOf (c' := ol 56 ma mc (tkd TM ms j ++ [mg0])) (.tl (.tl (.tl (.tl (.tl (.tl .hd)))))) hw) (by omega)) ?_
    rintro ⟨mad, rfl⟩
    refine sx ?_
    refine s_drU (.hb b1 38 [.slice (some ad) ps.length pc, .slice ka fs.length kc, .slice (some mad) ms.length mc, .slice (some ad) (ps.length + 2) pc, .slice ka (fs.length + 1) kc, .slice (some mad) (ms.length + 1) mc, .slice aa (fs.length + 3 * ms.length) ac] :: ol 56 (some mad) mc (tkd TM ms j ++ [mg0]) :: H) (.one true 0 (.one true 1 (.one true 2 (.one true 3 (.one true 4 (.one true 5 (.one true 6 (.one true 7 (.one true 8 (.one true 9 (.one true 10 (.one true 11 .nil)))))))))))) (.one false 12 .nil) [12] #[true, true, true, true, true, true, true, true, true, true, true, true, false] mixed (by kernel_rfl) ?_
    refine sx ?_
    refine s_yH rfl rfl rfl (y_addUW rfl rfl) ?_
    refine sx ?_
    refine s_bar ?_
    refine sx ?_
    refine s_setF (i := j) (o := 0) (sz := 5) (x0 := m) (y := TM m) rfl rfl (by exact at_) hmx (by simp [Cel.f, Mg.cells, TM, tV]) (by decide) rfl ?_
    refine sx ?_
    refine s_again (j + 1) (by omega) (by omega) (he := ?_)
    rw [List.set_append_left _ _ (by omega), tkd_set hm, snocT (show ((ms.map TM).map M2)[j]? = some (M2 (TM m)) by simp [hm])]
    refine Ent.cons (by exact rm) (Ent.cons (by exact rm) (Ent.cons (by exact rm) (Ent.cons (by exact rm) (Ent.cons (by exact rm) (Ent.cons (by exact rm) ?_)))))
    exact Ent.trans (H' := ob m.la m.lc (m.lo ++ mk2) :: ob m.ha m.hc (m.hi ++ mk2) :: ob m.va m.vc (m.v.map (· ^^^ 85) ++ mk2) :: stars oM (((ms.map TM).map M2).take j) :: stars oM ((ms.map M2).drop (j + 1)) :: .ro mb (flat mkB) :: .hb b2 28 [.slice none 0 0, .slice none 0 0, .slice none 0 0] :: H) (by exact ent) (stars_snoc (f := oM) (s := M2 (TM m)))
  have t2 : ¬ (j : Int) + 1 < ((ms.length + 1 : Nat) : Int) := t2
  obtain rfl : j = ms.length := by omega
  rw [tkd_all (f := TM) (l := ms) (Nat.le_refl _)] at hml0 ⊢
  rw [List.take_of_length_le (by simp), List.drop_of_length_le (by simp)]
  clear hmt hj t2
  have hMl : (ms.map TM).length = ms.length := List.length_map ..
  have hMd : ∀ (i : Nat) (m : Mg), (ms.map TM)[i]? = some m → m.lo.length ≤ 4294967296 ∧ m.hi.length ≤ 4294967296 ∧ m.v.length ≤ 4294967296 := by
    intro i m h
    rw [List.getElem?_map] at h
    obtain ⟨m0, h0, rfl⟩ := Option.map_eq_some_iff.1 h
    have := hml m0 (List.mem_of_getElem? h0)
    simpa [TM, tV] using this
  rw [als_turn]
  obtain ⟨MS, hMS⟩ : ∃ MS, MS = ms.map TM := ⟨_, rfl⟩
  rw [← hMS] at hml0 hMl hMd ⊢
  have rpx : RSl w0 (.hb b1 38 [.slice (some ad) ps.length pc, .slice ka fs.length kc, .slice ma ms.length mc, .slice (some ad) (ps.length + 2) pc, .slice ka (fs.length + 1) kc, .slice ma (ms.length + 1) mc, .slice aa (fs.length + 3 * ms.length) ac] :: ol 3 (some ad) pc ((ps ++ pm).map xI) :: ol 44 ka kc (fs ++ [bMk mb]) :: ol 56 ma mc (MS ++ [mg0]) :: ol 44 aa ac (fs.map K2 ++ MS.flatMap A3) :: fam 5 (fs.map K2) :: stars oM (MS.map M2) :: .ro mb (flat mkB) :: .hb b2 28 [.slice none 0 0, .slice none 0 0, .slice none 0 0] :: H) (some ad) pc (ps.map xI) := RSl.tl (take_sl (by rw [← List.map_append]; exact RSl.hd))
  refine s_ent (.hb b1 38 [.slice (some ad) ps.length pc, .slice ka fs.length kc, .slice ma ms.length mc, .slice (some ad) (ps.length + 2) pc, .slice ka (fs.length + 1) kc, .slice ma (ms.length + 1) mc, .slice aa (fs.length + 3 * ms.length) ac] :: ol 3 (some ad) pc ((ps ++ pm).map xI) :: ol 44 ka kc (fs ++ [bMk mb]) :: ol 56 ma mc (MS ++ [mg0]) :: ol 44 aa ac (fs.map K2 ++ MS.flatMap A3) :: fam 5 (fs.map K2) :: stars oM (MS.map M2) :: .ro mb (flat mkB) :: .hb b2 28 [.slice none 0 0, .slice none 0 0, .slice none 0 0] :: H) (by exact ent) ?_
  refine sx ?_
  refine s_bsl ([] : List Int) rfl rfl fun b68 => ?_
  refine sx ?_
  refine s_rw (t := 71) (v' := .pointer (some ((⟨b1, 0, none⟩ : Addr).add 0))) rfl rfl ?_
  refine sx ?_
  refine s_app (ys := ps.map xI) ?_ (hm := (List.length_map ..).symm)
  intro pa7 pc7
  rw [List.nil_append]
  refine s_rw (t := 73) (v' := .slice pa7 ps.length pc7) rfl (by rw [List.length_map]) ?_
  refine sx ?_
  refine s_alloc fun b7 => ?_
  refine sx ?_
  refine s_loop (fun i : CpI => [(1, .pointer (some ⟨b1, 0, none⟩)), (2, .pointer (some ⟨b2, 0, none⟩)), (7, .pointer (some ⟨b7, 0, none⟩)), (8, .int .i64 i.cs.length)]) (fun i => .hb b7 28 [.slice pa7 ps.length pc7, .slice i.a i.cs.length i.c, .slice none 0 0] :: ol 3 pa7 pc7 (ps.map xI) :: ol 44 i.a i.c i.cs :: fam 5 i.cs :: .hb b1 38 [.slice (some ad) ps.length pc, .slice ka fs.length kc, .slice ma ms.length mc, .slice (some ad) (ps.length + 2) pc, .slice ka (fs.length + 1) kc, .slice ma (ms.length + 1) mc, .slice aa (fs.length + 3 * ms.length) ac] :: ol 3 (some ad) pc ((ps ++ pm).map xI) :: ol 44 ka kc (fs ++ [bMk mb]) :: ol 56 ma mc (MS ++ [mg0]) :: ol 44 aa ac (fs.map K2 ++ MS.flatMap A3) :: fam 5 (fs.map K2) :: stars oM (MS.map M2) :: .ro mb (flat mkB) :: .hb b2 28 [.slice none 0 0, .slice none 0 0, .slice none 0 0] :: H) (fun i => i.cs.length ≤ fs.length ∧ i.cs.map SB.xs = (fs.map SB.xs).take i.cs.length) (fun i => fs.length - i.cs.length) ⟨none, 0, []⟩ ⟨Nat.zero_le _, rfl⟩ ?_ (he := by
      refine Ent.cons (by exact rm) ?_
      refine Ent.cons (by exact rm) ?_
      exact Ent.nilS.trans (Ent.head (fam_nil.trans (Ent.head ent))))
  clear rpx
  rintro ⟨a, c, cs⟩ ⟨h1, h2⟩
  simp only at h1 h2 ⊢
  have hfl0 : (fs ++ [bMk mb]).length = fs.length + 1 := by simp
  refine sx ?_
  refine s_rw (t := 79) (v' := .pointer (some ((⟨b1, 0, none⟩ : Addr).add 1))) rfl rfl ?_
  refine sx ?_
  refine s_if rfl (fun t1 => ?_) (fun t1 => ?_)
  · have t1 : (cs.length : Int) < (fs.length : Int) := t1
    obtain ⟨f, hf⟩ := get_lt fs cs.length (by omega)
    have hfx : (fs ++ [bMk mb])[cs.length]? = some f := by rw [List.getElem?_append_left (by omega)]; exact hf
    have hkp : (fs.map SB.xs)[cs.length]? = some f.xs := by rw [List.getElem?_map, hf]; rfl
    have hfm := hkl f (List.mem_of_getElem? hf)
    have rf : RBy w0 (.hb b1 38 [.slice (some ad) ps.length pc, .slice ka fs.length kc, .slice ma ms.length mc, .slice (some ad) (ps.length + 2) pc, .slice ka (fs.length + 1) kc, .slice ma (ms.length + 1) mc, .slice aa (fs.length + 3 * ms.length) ac] :: ol 3 (some ad) pc ((ps ++ pm).map xI) :: ol 44 ka kc (fs ++ [bMk mb]) :: ol 56 ma mc (MS ++ [mg0]) :: ol 44 aa ac (fs.map K2 ++ MS.flatMap A3) :: fam 5 (fs.map K2) :: stars oM (MS.map M2) :: .ro mb (flat mkB) :: .hb b2 28 [.slice none 0 0, .slice none 0 0, .slice none 0 0] :: H) f.a f.c f.xs := RBy.tl (RBy.tl (RBy.tl (RBy.tl (RBy.tl (take_by (fam_by (s := K2 f) (List.mem_map.2 ⟨f, List.mem_of_getElem? hf, rfl⟩)))))))
    refine sx ?_
    refine s_drU (.hb b7 28 [.slice pa7 ps.length pc7, .slice a cs.length c, .slice none 0 0] :: .hb b1 38 [.slice (some ad) ps.length pc, .slice ka fs.length kc, .slice ma ms.length mc, .slice (some ad) (ps.length + 2) pc, .slice ka (fs.length + 1) kc, .slice ma (ms.length + 1) mc, .slice aa (fs.length + 3 * ms.length) ac] :: ol 3 (some ad) pc ((ps ++ pm).map xI) :: ol 44 ka kc (fs ++ [bMk mb]) :: ol 56 ma mc (MS ++ [mg0]) :: ol 44 aa ac (fs.map K2 ++ MS.flatMap A3) :: fam 5 (fs.map K2) :: stars oM (MS.map M2) :: .ro mb (flat mkB) :: .hb b2 28 [.slice none 0 0, .slice none 0 0, .slice none 0 0] :: H) (.one true 0 (.one true 1 (.one true 2 (.one true 4 (.one true 5 (.one true 6 (.one true 7 (.one true 8 (.one true 9 (.one true 10 (.one false 3 (.one false 11 (.one false 12 .nil))))))))))))) (.one false 13 (.one true 14 (.one true 15 (.one false 16 .nil)))) [13, 16] #[true, true, true, true, true, true, true, true, true, true, true, true, true, false, false, false, false] mixed (by kernel_rfl) ?_
    refine sx ?_
    refine s_rw (t := 86) (v' := .pointer (some ((⟨b7, 0, none⟩ : Addr).add 1))) rfl rfl ?_
    refine sx ?_
    refine s_rw (t := 91) (v' := .pointer (some ((⟨b1, 0, none⟩ : Addr).add 1))) rfl rfl ?_
    refine sx ?_
    refine s_bsl ([] : Bs) rfl rfl fun b88 => ?_
    refine sx ?_
    refine s_app (ys := f.xs) ?_
    intro a96 c96
    rw [List.nil_append]
    refine sx ?_
    refine s_bsl [(⟨a96, c96, f.xs⟩ : SB)] rfl rfl fun b97 => ?_
    refine sx ?_
    refine s_bar ?_
    refine sx ?_
    refine s_app ?_
    intro a2 c2
    refine s_rw (t := 98) (v' := .slice a2 (cs.length + 1) c2) rfl (by simp) ?_
    refine sx ?_
    refine s_rwQ (t := 8) rfl (ci (by rw [List.length_append]; rfl : _ = (((cs ++ [(⟨a96, c96, f.xs⟩ : SB)]).length : Nat) : Int))) ?_
    refine s_again ⟨a2, c2, cs ++ [⟨a96, c96, f.xs⟩]⟩ ⟨by simp only [List.length_append, List.length_singleton]; omega, by rw [List.map_append, h2, List.length_append, List.length_singleton, snocT hkp]; rfl⟩ (by simp only [List.length_append, List.length_singleton]; omega) (he := ?_)
    simp only [List.length_append, List.length_singleton]
    refine Ent.cons (by exact rm) (Ent.cons (by exact rm) (Ent.cons (by exact rm) ?_))
    refine Ent.famS (by exact rm) (by exact rm) ?_
    exact ent
  obtain e : cs.length = fs.length := by omega
  have h2 : cs.map SB.xs = fs.map SB.xs := by rw [h2, e]; exact List.take_of_length_le (by simp)
  clear h1 t1
  refine sx ?_
  refine s_loop (fun i : CqI => [(1, .pointer (some ⟨b1, 0, none⟩)), (2, .pointer (some ⟨b2, 0, none⟩)), (7, .pointer (some ⟨b7, 0, none⟩)), (9, .int .i64 i.qs.length)]) (fun i => .hb b7 28 [.slice pa7 ps.length pc7, .slice a cs.length c, .slice i.a i.qs.length i.c] :: ol 3 pa7 pc7 (ps.map xI) :: ol 44 a c cs :: fam 5 cs :: ol 56 i.a i.c i.qs :: stars oM i.qs :: .hb b1 38 [.slice (some ad) ps.length pc, .slice ka fs.length kc, .slice ma ms.length mc, .slice (some ad) (ps.length + 2) pc, .slice ka (fs.length + 1) kc, .slice ma (ms.length + 1) mc, .slice aa (fs.length + 3 * ms.length) ac] :: ol 3 (some ad) pc ((ps ++ pm).map xI) :: ol 44 ka kc (fs ++ [bMk mb]) :: ol 56 ma mc (MS ++ [mg0]) :: ol 44 aa ac (fs.map K2 ++ MS.flatMap A3) :: fam 5 (fs.map K2) :: stars oM (MS.map M2) :: .ro mb (flat mkB) :: .hb b2 28 [.slice none 0 0, .slice none 0 0, .slice none 0 0] :: H) (fun i => i.qs.length ≤ MS.length ∧ i.qs.map Mg.d = (MS.map Mg.d).take i.qs.length) (fun i => MS.length - i.qs.length) ⟨none, 0, []⟩ ⟨Nat.zero_le _, rfl⟩ ?_ (he := by
      refine Ent.cons (by exact rm) (Ent.cons (by exact rm) (Ent.cons (by exact rm) (Ent.cons (by exact rm) ?_)))
      exact Ent.nilS.trans (Ent.head (stars_nil.trans (Ent.head ent))))
  rintro ⟨qa, qc, qs⟩ ⟨h1, h3⟩
  simp only at h1 h3 ⊢
  refine sx ?_
  refine s_rw (t := 103) (v' := .pointer (some ((⟨b1, 0, none⟩ : Addr).add 2))) rfl rfl ?_
  refine sx ?_
  refine s_if rfl (fun t1 => ?_) (fun t1 => ?_)
  · have t1 : (qs.length : Int) < (ms.length : Int) := t1
    obtain ⟨m, hm⟩ := get_lt MS qs.length (by omega)
    have hmx : (MS ++ [mg0])[qs.length]? = some m := by rw [List.getElem?_append_left (by omega)]; exact hm
    have hmm := hMd _ _ hm
    have hme : RMg w0 (.hb b1 38 [.slice (some ad) ps.length pc, .slice ka fs.length kc, .slice ma ms.length mc, .slice (some ad) (ps.length + 2) pc, .slice ka (fs.length + 1) kc, .slice ma (ms.length + 1) mc, .slice aa (fs.length + 3 * ms.length) ac] :: ol 3 (some ad) pc ((ps ++ pm).map xI) :: ol 44 ka kc (fs ++ [bMk mb]) :: ol 56 ma mc (MS ++ [mg0]) :: ol 44 aa ac (fs.map K2 ++ MS.flatMap A3) :: fam 5 (fs.map K2) :: stars oM (MS.map M2) :: .ro mb (flat mkB) :: .hb b2 28 [.slice none 0 0, .slice none 0 0, .slice none 0 0] :: H) (M2 m) := RMg.tl (RMg.tl (RMg.tl (RMg.tl (RMg.tl (RMg.tl ((RMg.oM (H := [])).ent (by rw [List.append_nil]; exact stars_mem (List.mem_map.2 ⟨m, List.mem_of_getElem? hm, rfl⟩))))))))
    have hlo : RBy w0 (.hb b1 38 [.slice (some ad) ps.length pc, .slice ka fs.length kc, .slice ma ms.length mc, .slice (some ad) (ps.length + 2) pc, .slice ka (fs.length + 1) kc, .slice ma (ms.length + 1) mc, .slice aa (fs.length + 3 * ms.length) ac] :: ol 3 (some ad) pc ((ps ++ pm).map xI) :: ol 44 ka kc (fs ++ [bMk mb]) :: ol 56 ma mc (MS ++ [mg0]) :: ol 44 aa ac (fs.map K2 ++ MS.flatMap A3) :: fam 5 (fs.map K2) :: stars oM (MS.map M2) :: .ro mb (flat mkB) :: .hb b2 28 [.slice none 0 0, .slice none 0 0, .slice none 0 0] :: H) m.la m.lc m.lo := take_by hme.lo
    have hhi : RBy w0 (.hb b1 38 [.slice (some ad) ps.length pc, .slice ka fs.length kc, .slice ma ms.length mc, .slice (some ad) (ps.length + 2) pc, .slice ka (fs.length + 1) kc, .slice ma (ms.length + 1) mc, .slice aa (fs.length + 3 * ms.length) ac] :: ol 3 (some ad) pc ((ps ++ pm).map xI) :: ol 44 ka kc (fs ++ [bMk mb]) :: ol 56 ma mc (MS ++ [mg0]) :: ol 44 aa ac (fs.map K2 ++ MS.flatMap A3) :: fam 5 (fs.map K2) :: stars oM (MS.map M2) :: .ro mb (flat mkB) :: .hb b2 28 [.slice none 0 0, .slice none 0 0, .slice none 0 0] :: H) m.ha m.hc m.hi := take_by hme.hi
    have hv : RBy w0 (.hb b1 38 [.slice (some ad) ps.length pc, .slice ka fs.length kc, .slice ma ms.length mc, .slice (some ad) (ps.length + 2) pc, .slice ka (fs.length + 1) kc, .slice ma (ms.length + 1) mc, .slice aa (fs.length + 3 * ms.length) ac] :: ol 3 (some ad) pc ((ps ++ pm).map xI) :: ol 44 ka kc (fs ++ [bMk mb]) :: ol 56 ma mc (MS ++ [mg0]) :: ol 44 aa ac (fs.map K2 ++ MS.flatMap A3) :: fam 5 (fs.map K2) :: stars oM (MS.map M2) :: .ro mb (flat mkB) :: .hb b2 28 [.slice none 0 0, .slice none 0 0, .slice none 0 0] :: H) m.va m.vc m.v := take_by hme.v
    clear hme
    refine sx ?_
    refine s_rw (t := 110) (v' := .pointer (some ((⟨b1, 0, none⟩ : Addr).add 2))) rfl rfl ?_
    refine sx ?_
    refine s_alloc fun bm => ?_
    refine sx ?_
    obtain ⟨G, hG⟩ : ∃ G, G = .hb b1 38 [.slice (some ad) ps.length pc, .slice ka fs.length kc, .slice ma ms.length mc, .slice (some ad) (ps.length + 2) pc, .slice ka (fs.length + 1) kc, .slice ma (ms.length + 1) mc, .slice aa (fs.length + 3 * ms.length) ac] :: ol 3 (some ad) pc ((ps ++ pm).map xI) :: ol 44 ka kc (fs ++ [bMk mb]) :: ol 56 ma mc (MS ++ [mg0]) :: ol 44 aa ac (fs.map K2 ++ MS.flatMap A3) :: fam 5 (fs.map K2) :: stars oM (MS.map M2) :: .ro mb (flat mkB) :: .hb b2 28 [.slice none 0 0, .slice none 0 0, .slice none 0 0] :: H := ⟨_, rfl⟩
    rw [← hG] at hlo hhi hv ⊢
    clear hG
    refine s_drU (.hb bm 56 (Cel.f m) :: .hb b7 28 [.slice pa7 ps.length pc7, .slice a cs.length c, .slice qa qs.length qc] :: G) (.one true 0 (.one true 1 (.one true 2 (.one true 3 (.one true 4 (.one true 5 (.one true 7 (.one true 8 (.one true 11 (.one true 12 (.one true 15 (.one true 16 (.alt (.one false 6 (.alt (.one false 9 (.alt (.one false 10 (.alt (.one false 13 (.one false 14 (.one false 17 (.one true 18 (.one false 19 .nil))))) (.one false 14 (.one false 13 (.one false 17 (.one true 18 (.one false 19 .nil))))))) (.one false 14 (.one false 10 (.one false 13 (.one false 17 (.one true 18 (.one false 19 .nil)))))))) (.alt (.one false 10 (.alt (.one false 9 (.alt (.one false 13 (.one false 14 (.one false 17 (.one true 18 (.one false 19 .nil))))) (.one false 14 (.one false 13 (.one false 17 (.one true 18 (.one false 19 .nil))))))) (.one false 14 (.one false 9 (.one false 13 (.one false 17 (.one true 18 (.one false 19 .nil)))))))) (.one false 14 (.alt (.one false 9 (.one false 10 (.one false 13 (.one false 17 (.one true 18 (.one false 19 .nil)))))) (.one false 10 (.one false 9 (.one false 13 (.one false 17 (.one true 18 (.one false 19 .nil))))))))))) (.alt (.one false 10 (.alt (.one false 6 (.alt (.one false 9 (.alt (.one false 13 (.one false 14 (.one false 17 (.one true 18 (.one false 19 .nil))))) (.one false 14 (.one false 13 (.one false 17 (.one true 18 (.one false 19 .nil))))))) (.one false 14 (.one false 9 (.one false 13 (.one false 17 (.one true 18 (.one false 19 .nil)))))))) (.one false 14 (.one false 6 (.one false 9 (.one false 13 (.one false 17 (.one true 18 (.one false 19 .nil))))))))) (.one false 14 (.alt (.one false 6 (.alt (.one false 9 (.one false 10 (.one false 13 (.one false 17 (.one true 18 (.one false 19 .nil)))))) (.one false 10 (.one false 9 (.one false 13 (.one false 17 (.one true 18 (.one false 19 .nil)))))))) (.one false 10 (.one false 6 (.one false 9 (.one false 13 (.one false 17 (.one true 18 (.one false 19 .nil))))))))))))))))))))))) (.one false 20 (.one true 21 (.one false 22 .nil))) [20, 22] #[true, true, true, true, true, true, true, true, true, true, true, true, true, true, true, true, true, true, true, true, false, false, false] mixed (by kernel_rfl) ?_
    refine sx ?_
    refine sx ?_
    apply s_join6
    · intro key
      refine s_alt ?_ ?_
      · skip
        refine sx ?_
        refine s_bsl ([] : Bs) rfl rfl (fun b6 => ?_) (hk := by intros; exact chk_held (by exact entq))
        refine sx ?_
        refine s_alt ?_ ?_
        · skip
          refine sx ?_
          refine s_app (ys := m.lo) ?_ (hk := by intros; exact chk_held (by exact entq))
          intro a9 c9
          rw [List.nil_append]
          refine sx ?_
          refine s_alt ?_ ?_
          · skip
            refine sx ?_
            refine s_bsl ([] : Bs) rfl rfl (fun b10 => ?_) (hk := by intros; exact chk_held (by exact entq))
            refine sx ?_
            refine s_alt ?_ ?_
            · skip
              refine sx ?_
              refine s_app (ys := m.hi) ?_ (hk := by intros; exact chk_held (by exact entq))
              intro a13 c13
              rw [List.nil_append]
              refine sx ?_
              refine s_bsl ([] : Bs) rfl rfl (fun b14 => ?_) (hk := by intros; exact chk_held (by exact entq))
              refine sx ?_
              refine s_app (ys := m.v) ?_ (hk := by intros; exact chk_held (by exact entq))
              intro a17 c17
              rw [List.nil_append]
              refine s_subL (l' := [(132, .slice a17 m.v.length c17), (128, .slice a13 m.hi.length c13), (124, .slice a9 m.lo.length c9), (120, .int .i64 m.kd), (118, .int .u64 m.st), (116, .slice qa qs.length qc), (1, .pointer (some ⟨b1, 0, none⟩)), (2, .pointer (some ⟨b2, 0, none⟩)), (7, .pointer (some ⟨b7, 0, none⟩)), (9, .int .i64 (qs.length : Nat))]) ?_ (by repeat (first | exact trivial | refine And.intro (by first | exact rfl | exact congrArg some (ci (by omega))) ?_))
              refine s_entL (ob a9 c9 m.lo :: ob a13 c13 m.hi :: ob a17 c17 m.v :: .hb bm 56 (Cel.f m) :: .hb b7 28 [.slice pa7 ps.length pc7, .slice a cs.length c, .slice qa qs.length qc] :: ol 3 pa7 pc7 (ps.map xI) :: ol 44 a c cs :: fam 5 cs :: ol 56 qa qc qs :: stars oM qs :: G) (by exact entq) ?_
              exact key.out a9 c9 a13 c13 a17 c17
            · skip
              refine sx ?_
              refine s_bsl ([] : Bs) rfl rfl (fun b14 => ?_) (hk := by intros; exact chk_held (by exact entq))
              refine sx ?_
              refine s_app (ys := m.hi) ?_ (hk := by intros; exact chk_held (by exact entq))
              intro a13 c13
              rw [List.nil_append]
              refine sx ?_
              refine s_app (ys := m.v) ?_ (hk := by intros; exact chk_held (by exact entq))
              intro a17 c17
              rw [List.nil_append]
              refine s_subL (l' := [(132, .slice a17 m.v.length c17), (128, .slice a13 m.hi.length c13), (124, .slice a9 m.lo.length c9), (120, .int .i64 m.kd), (118, .int .u64 m.st), (116, .slice qa qs.length qc), (1, .pointer (some ⟨b1, 0, none⟩)), (2, .pointer (some ⟨b2, 0, none⟩)), (7, .pointer (some ⟨b7, 0, none⟩)), (9, .int .i64 (qs.length : Nat))]) ?_ (by repeat (first | exact trivial | refine And.intro (by first | exact rfl | exact congrArg some (ci (by omega))) ?_))
              refine s_entL (ob a9 c9 m.lo :: ob a13 c13 m.hi :: ob a17 c17 m.v :: .hb bm 56 (Cel.f m) :: .hb b7 28 [.slice pa7 ps.length pc7, .slice a cs.length c, .slice qa qs.length qc] :: ol 3 pa7 pc7 (ps.map xI) :: ol 44 a c cs :: fam 5 cs :: ol 56 qa qc qs :: stars oM qs :: G) (by exact entq) ?_
              exact key.out a9 c9 a13 c13 a17 c17
          · skip
            refine sx ?_
            refine s_bsl ([] : Bs) rfl rfl (fun b14 => ?_) (hk := by intros; exact chk_held (by exact entq))
            refine sx ?_
            refine s_bsl ([] : Bs) rfl rfl (fun b10 => ?_) (hk := by intros; exact chk_held (by exact entq))
            refine sx ?_
            refine s_app (ys := m.hi) ?_ (hk := by intros; exact chk_held (by exact entq))
            intro a13 c13
            rw [List.nil_append]
            refine sx ?_
            refine s_app (ys := m.v) ?_ (hk := by intros; exact chk_held (by exact entq))
            intro a17 c17
            rw [List.nil_append]
            refine s_subL (l' := [(132, .slice a17 m.v.length c17), (128, .slice a13 m.hi.length c13), (124, .slice a9 m.lo.length c9), (120, .int .i64 m.kd), (118, .int .u64 m.st), (116, .slice qa qs.length qc), (1, .pointer (some ⟨b1, 0, none⟩)), (2, .pointer (some ⟨b2, 0, none⟩)), (7, .pointer (some ⟨b7, 0, none⟩)), (9, .int .i64 (qs.length : Nat))]) ?_ (by repeat (first | exact trivial | refine And.intro (by first | exact rfl | exact congrArg some (ci (by omega))) ?_))
            refine s_entL (ob a9 c9 m.lo :: ob a13 c13 m.hi :: ob a17 c17 m.v :: .hb bm 56 (Cel.f m) :: .hb b7 28 [.slice pa7 ps.length pc7, .slice a cs.length c, .slice qa qs.length qc] :: ol 3 pa7 pc7 (ps.map xI) :: ol 44 a c cs :: fam 5 cs :: ol 56 qa qc qs :: stars oM qs :: G) (by exact entq) ?_
            exact key.out a9 c9 a13 c13 a17 c17
        · skip
          refine sx ?_
          refine s_alt ?_ ?_
          · skip
            refine sx ?_
            refine s_bsl ([] : Bs) rfl rfl (fun b10 => ?_) (hk := by intros; exact chk_held (by exact entq))
            refine sx ?_
            refine s_alt ?_ ?_
            · skip
              refine sx ?_
              refine s_app (ys := m.lo) ?_ (hk := by intros; exact chk_held (by exact entq))
              intro a9 c9
              rw [List.nil_append]
              refine sx ?_
              refine s_alt ?_ ?_
              · skip
                refine sx ?_
                refine s_app (ys := m.hi) ?_ (hk := by intros; exact chk_held (by exact entq))
                intro a13 c13
                rw [List.nil_append]
                refine sx ?_
                refine s_bsl ([] : Bs) rfl rfl (fun b14 => ?_) (hk := by intros; exact chk_held (by exact entq))
                refine sx ?_
                refine s_app (ys := m.v) ?_ (hk := by intros; exact chk_held (by exact entq))
                intro a17 c17
                rw [List.nil_append]
                refine s_subL (l' := [(132, .slice a17 m.v.length c17), (128, .slice a13 m.hi.length c13), (124, .slice a9 m.lo.length c9), (120, .int .i64 m.kd), (118, .int .u64 m.st), (116, .slice qa qs.length qc), (1, .pointer (some ⟨b1, 0, none⟩)), (2, .pointer (some ⟨b2, 0, none⟩)), (7, .pointer (some ⟨b7, 0, none⟩)), (9, .int .i64 (qs.length : Nat))]) ?_ (by repeat (first | exact trivial | refine And.intro (by first | exact rfl | exact congrArg some (ci (by omega))) ?_))
                refine s_entL (ob a9 c9 m.lo :: ob a13 c13 m.hi :: ob a17 c17 m.v :: .hb bm 56 (Cel.f m) :: .hb b7 28 [.slice pa7 ps.length pc7, .slice a cs.length c, .slice qa qs.length qc] :: ol 3 pa7 pc7 (ps.map xI) :: ol 44 a c cs :: fam 5 cs :: ol 56 qa qc qs :: stars oM qs :: G) (by exact entq) ?_
                exact key.out a9 c9 a13 c13 a17 c17
              · skip
                refine sx ?_
                refine s_bsl ([] : Bs) rfl rfl (fun b14 => ?_) (hk := by intros; exact chk_held (by exact entq))
                refine sx ?_
                refine s_app (ys := m.hi) ?_ (hk := by intros; exact chk_held (by exact entq))
                intro a13 c13
                rw [List.nil_append]
                refine sx ?_
                refine s_app (ys := m.v) ?_ (hk := by intros; exact chk_held (by exact entq))
                intro a17 c17
                rw [List.nil_append]
                refine s_subL (l' := [(132, .slice a17 m.v.length c17), (128, .slice a13 m.hi.length c13), (124, .slice a9 m.lo.length c9), (120, .int .i64 m.kd), (118, .int .u64 m.st), (116, .slice qa qs.length qc), (1, .pointer (some ⟨b1, 0, none⟩)), (2, .pointer (some ⟨b2, 0, none⟩)), (7, .pointer (some ⟨b7, 0, none⟩)), (9, .int .i64 (qs.length : Nat))]) ?_ (by repeat (first | exact trivial | refine And.intro (by first | exact rfl | exact congrArg some (ci (by omega))) ?_))
                refine s_entL (ob a9 c9 m.lo :: ob a13 c13 m.hi :: ob a17 c17 m.v :: .hb bm 56 (Cel.f m) :: .hb b7 28 [.slice pa7 ps.length pc7, .slice a cs.length c, .slice qa qs.length qc] :: ol 3 pa7 pc7 (ps.map xI) :: ol 44 a c cs :: fam 5 cs :: ol 56 qa qc qs :: stars oM qs :: G) (by exact entq) ?_
                exact key.out a9 c9 a13 c13 a17 c17
            · skip
              refine sx ?_
              refine s_bsl ([] : Bs) rfl rfl (fun b14 => ?_) (hk := by intros; exact chk_held (by exact entq))
              refine sx ?_
              refine s_app (ys := m.lo) ?_ (hk := by intros; exact chk_held (by exact entq))
              intro a9 c9
              rw [List.nil_append]
              refine sx ?_
              refine s_app (ys := m.hi) ?_ (hk := by intros; exact chk_held (by exact entq))
              intro a13 c13
              rw [List.nil_append]
              refine sx ?_
              refine s_app (ys := m.v) ?_ (hk := by intros; exact chk_held (by exact entq))
              intro a17 c17
              rw [List.nil_append]
              refine s_subL (l' := [(132, .slice a17 m.v.length c17), (128, .slice a13 m.hi.length c13), (124, .slice a9 m.lo.length c9), (120, .int .i64 m.kd), (118, .int .u64 m.st), (116, .slice qa qs.length qc), (1, .pointer (some ⟨b1, 0, none⟩)), (2, .pointer (some ⟨b2, 0, none⟩)), (7, .pointer (some ⟨b7, 0, none⟩)), (9, .int .i64 (qs.length : Nat))]) ?_ (by repeat (first | exact trivial | refine And.intro (by first | exact rfl | exact congrArg some (ci (by omega))) ?_))
              refine s_entL (ob a9 c9 m.lo :: ob a13 c13 m.hi :: ob a17 c17 m.v :: .hb bm 56 (Cel.f m) :: .hb b7 28 [.slice pa7 ps.length pc7, .slice a cs.length c, .slice qa qs.length qc] :: ol 3 pa7 pc7 (ps.map xI) :: ol 44 a c cs :: fam 5 cs :: ol 56 qa qc qs :: stars oM qs :: G) (by exact entq) ?_
              exact key.out a9 c9 a13 c13 a17 c17
          · skip
            refine sx ?_
            refine s_bsl ([] : Bs) rfl rfl (fun b14 => ?_) (hk := by intros; exact chk_held (by exact entq))
            refine sx ?_
            refine s_alt ?_ ?_
            · skip
              refine sx ?_
              refine s_app (ys := m.lo) ?_ (hk := by intros; exact chk_held (by exact entq))
              intro a9 c9
              rw [List.nil_append]
              refine sx ?_
              refine s_bsl ([] : Bs) rfl rfl (fun b10 => ?_) (hk := by intros; exact chk_held (by exact entq))
              refine sx ?_
              refine s_app (ys := m.hi) ?_ (hk := by intros; exact chk_held (by exact entq))
              intro a13 c13
              rw [List.nil_append]
              refine sx ?_
              refine s_app (ys := m.v) ?_ (hk := by intros; exact chk_held (by exact entq))
              intro a17 c17
              rw [List.nil_append]
              refine s_subL (l' := [(132, .slice a17 m.v.length c17), (128, .slice a13 m.hi.length c13), (124, .slice a9 m.lo.length c9), (120, .int .i64 m.kd), (118, .int .u64 m.st), (116, .slice qa qs.length qc), (1, .pointer (some ⟨b1, 0, none⟩)), (2, .pointer (some ⟨b2, 0, none⟩)), (7, .pointer (some ⟨b7, 0, none⟩)), (9, .int .i64 (qs.length : Nat))]) ?_ (by repeat (first | exact trivial | refine And.intro (by first | exact rfl | exact congrArg some (ci (by omega))) ?_))
              refine s_entL (ob a9 c9 m.lo :: ob a13 c13 m.hi :: ob a17 c17 m.v :: .hb bm 56 (Cel.f m) :: .hb b7 28 [.slice pa7 ps.length pc7, .slice a cs.length c, .slice qa qs.length qc] :: ol 3 pa7 pc7 (ps.map xI) :: ol 44 a c cs :: fam 5 cs :: ol 56 qa qc qs :: stars oM qs :: G) (by exact entq) ?_
              exact key.out a9 c9 a13 c13 a17 c17
            · skip
              refine sx ?_
              refine s_bsl ([] : Bs) rfl rfl (fun b10 => ?_) (hk := by intros; exact chk_held (by exact entq))
              refine sx ?_
              refine s_app (ys := m.lo) ?_ (hk := by intros; exact chk_held (by exact entq))
              intro a9 c9
              rw [List.nil_append]
              refine sx ?_
              refine s_app (ys := m.hi) ?_ (hk := by intros; exact chk_held (by exact entq))
              intro a13 c13
              rw [List.nil_append]
              refine sx ?_
              refine s_app (ys := m.v) ?_ (hk := by intros; exact chk_held (by exact entq))
              intro a17 c17
              rw [List.nil_append]
              refine s_subL (l' := [(132, .slice a17 m.v.length c17), (128, .slice a13 m.hi.length c13), (124, .slice a9 m.lo.length c9), (120, .int .i64 m.kd), (118, .int .u64 m.st), (116, .slice qa qs.length qc), (1, .pointer (some ⟨b1, 0, none⟩)), (2, .pointer (some ⟨b2, 0, none⟩)), (7, .pointer (some ⟨b7, 0, none⟩)), (9, .int .i64 (qs.length : Nat))]) ?_ (by repeat (first | exact trivial | refine And.intro (by first | exact rfl | exact congrArg some (ci (by omega))) ?_))
              refine s_entL (ob a9 c9 m.lo :: ob a13 c13 m.hi :: ob a17 c17 m.v :: .hb bm 56 (Cel.f m) :: .hb b7 28 [.slice pa7 ps.length pc7, .slice a cs.length c, .slice qa qs.length qc] :: ol 3 pa7 pc7 (ps.map xI) :: ol 44 a c cs :: fam 5 cs :: ol 56 qa qc qs :: stars oM qs :: G) (by exact entq) ?_
              exact key.out a9 c9 a13 c13 a17 c17
      · skip
        refine sx ?_
        refine s_alt ?_ ?_
        · skip
          refine sx ?_
          refine s_bsl ([] : Bs) rfl rfl (fun b10 => ?_) (hk := by intros; exact chk_held (by exact entq))
          refine sx ?_
          refine s_alt ?_ ?_
          · skip
            refine sx ?_
            refine s_bsl ([] : Bs) rfl rfl (fun b6 => ?_) (hk := by intros; exact chk_held (by exact entq))
            refine sx ?_
            refine s_alt ?_ ?_
            · skip
              refine sx ?_
              refine s_app (ys := m.lo) ?_ (hk := by intros; exact chk_held (by exact entq))
              intro a9 c9
              rw [List.nil_append]
              refine sx ?_
              refine s_alt ?_ ?_
              · skip
                refine sx ?_
                refine s_app (ys := m.hi) ?_ (hk := by intros; exact chk_held (by exact entq))
                intro a13 c13
                rw [List.nil_append]
                refine sx ?_
                refine s_bsl ([] : Bs) rfl rfl (fun b14 => ?_) (hk := by intros; exact chk_held (by exact entq))
                refine sx ?_
                refine s_app (ys := m.v) ?_ (hk := by intros; exact chk_held (by exact entq))
                intro a17 c17
                rw [List.nil_append]
                refine s_subL (l' := [(132, .slice a17 m.v.length c17), (128, .slice a13 m.hi.length c13), (124, .slice a9 m.lo.length c9), (120, .int .i64 m.kd), (118, .int .u64 m.st), (116, .slice qa qs.length qc), (1, .pointer (some ⟨b1, 0, none⟩)), (2, .pointer (some ⟨b2, 0, none⟩)), (7, .pointer (some ⟨b7, 0, none⟩)), (9, .int .i64 (qs.length : Nat))]) ?_ (by repeat (first | exact trivial | refine And.intro (by first | exact rfl | exact congrArg some (ci (by omega))) ?_))
                refine s_entL (ob a9 c9 m.lo :: ob a13 c13 m.hi :: ob a17 c17 m.v :: .hb bm 56 (Cel.f m) :: .hb b7 28 [.slice pa7 ps.length pc7, .slice a cs.length c, .slice qa qs.length qc] :: ol 3 pa7 pc7 (ps.map xI) :: ol 44 a c cs :: fam 5 cs :: ol 56 qa qc qs :: stars oM qs :: G) (by exact entq) ?_
                exact key.out a9 c9 a13 c13 a17 c17
              · skip
                refine sx ?_
                refine s_bsl ([] : Bs) rfl rfl (fun b14 => ?_) (hk := by intros; exact chk_held (by exact entq))
                refine sx ?_
                refine s_app (ys := m.hi) ?_ (hk := by intros; exact chk_held (by exact entq))
                intro a13 c13
                rw [List.nil_append]
                refine sx ?_
                refine s_app (ys := m.v) ?_ (hk := by intros; exact chk_held (by exact entq))
                intro a17 c17
                rw [List.nil_append]
                refine s_subL (l' := [(132, .slice a17 m.v.length c17), (128, .slice a13 m.hi.length c13), (124, .slice a9 m.lo.length c9), (120, .int .i64 m.kd), (118, .int .u64 m.st), (116, .slice qa qs.length qc), (1, .pointer (some ⟨b1, 0, none⟩)), (2, .pointer (some ⟨b2, 0, none⟩)), (7, .pointer (some ⟨b7, 0, none⟩)), (9, .int .i64 (qs.length : Nat))]) ?_ (by repeat (first | exact trivial | refine And.intro (by first | exact rfl | exact congrArg some (ci (by omega))) ?_))
                refine s_entL (ob a9 c9 m.lo :: ob a13 c13 m.hi :: ob a17 c17 m.v :: .hb bm 56 (Cel.f m) :: .hb b7 28 [.slice pa7 ps.length pc7, .slice a cs.length c, .slice qa qs.length qc] :: ol 3 pa7 pc7 (ps.map xI) :: ol 44 a c cs :: fam 5 cs :: ol 56 qa qc qs :: stars oM qs :: G) (by exact entq) ?_
                exact key.out a9 c9 a13 c13 a17 c17
            · skip
              refine sx ?_
              refine s_bsl ([] : Bs) rfl rfl (fun b14 => ?_) (hk := by intros; exact chk_held (by exact entq))
              refine sx ?_
              refine s_app (ys := m.lo) ?_ (hk := by intros; exact chk_held (by exact entq))
              intro a9 c9
              rw [List.nil_append]
              refine sx ?_
              refine s_app (ys := m.hi) ?_ (hk := by intros; exact chk_held (by exact entq))
              intro a13 c13
              rw [List.nil_append]
              refine sx ?_
              refine s_app (ys := m.v) ?_ (hk := by intros; exact chk_held (by exact entq))
              intro a17 c17
              rw [List.nil_append]
              refine s_subL (l' := [(132, .slice a17 m.v.length c17), (128, .slice a13 m.hi.length c13), (124, .slice a9 m.lo.length c9), (120, .int .i64 m.kd), (118, .int .u64 m.st), (116, .slice qa qs.length qc), (1, .pointer (some ⟨b1, 0, none⟩)), (2, .pointer (some ⟨b2, 0, none⟩)), (7, .pointer (some ⟨b7, 0, none⟩)), (9, .int .i64 (qs.length : Nat))]) ?_ (by repeat (first | exact trivial | refine And.intro (by first | exact rfl | exact congrArg some (ci (by omega))) ?_))
              refine s_entL (ob a9 c9 m.lo :: ob a13 c13 m.hi :: ob a17 c17 m.v :: .hb bm 56 (Cel.f m) :: .hb b7 28 [.slice pa7 ps.length pc7, .slice a cs.length c, .slice qa qs.length qc] :: ol 3 pa7 pc7 (ps.map xI) :: ol 44 a c cs :: fam 5 cs :: ol 56 qa qc qs :: stars oM qs :: G) (by exact entq) ?_
              exact key.out a9 c9 a13 c13 a17 c17
          · skip
            refine sx ?_
            refine s_bsl ([] : Bs) rfl rfl (fun b14 => ?_) (hk := by intros; exact chk_held (by exact entq))
            refine sx ?_
            refine s_bsl ([] : Bs) rfl rfl (fun b6 => ?_) (hk := by intros; exact chk_held (by exact entq))
            refine sx ?_
            refine s_app (ys := m.lo) ?_ (hk := by intros; exact chk_held (by exact entq))
            intro a9 c9
            rw [List.nil_append]
            refine sx ?_
            refine s_app (ys := m.hi) ?_ (hk := by intros; exact chk_held (by exact entq))
            intro a13 c13
            rw [List.nil_append]
            refine sx ?_
            refine s_app (ys := m.v) ?_ (hk := by intros; exact chk_held (by exact entq))
            intro a17 c17
            rw [List.nil_append]
            refine s_subL (l' := [(132, .slice a17 m.v.length c17), (128, .slice a13 m.hi.length c13), (124, .slice a9 m.lo.length c9), (120, .int .i64 m.kd), (118, .int .u64 m.st), (116, .slice qa qs.length qc), (1, .pointer (some ⟨b1, 0, none⟩)), (2, .pointer (some ⟨b2, 0, none⟩)), (7, .pointer (some ⟨b7, 0, none⟩)), (9, .int .i64 (qs.length : Nat))]) ?_ (by repeat (first | exact trivial | refine And.intro (by first | exact rfl | exact congrArg some (ci (by omega))) ?_))
            refine s_entL (ob a9 c9 m.lo :: ob a13 c13 m.hi :: ob a17 c17 m.v :: .hb bm 56 (Cel.f m) :: .hb b7 28 [.slice pa7 ps.length pc7, .slice a cs.length c, .slice qa qs.length qc] :: ol 3 pa7 pc7 (ps.map xI) :: ol 44 a c cs :: fam 5 cs :: ol 56 qa qc qs :: stars oM qs :: G) (by exact entq) ?_
            exact key.out a9 c9 a13 c13 a17 c17
        · skip
          refine sx ?_
          refine s_bsl ([] : Bs) rfl rfl (fun b14 => ?_) (hk := by intros; exact chk_held (by exact entq))
          refine sx ?_
          refine s_alt ?_ ?_
          · skip
            refine sx ?_
            refine s_bsl ([] : Bs) rfl rfl (fun b6 => ?_) (hk := by intros; exact chk_held (by exact entq))
            refine sx ?_
            refine s_alt ?_ ?_
            · skip
              refine sx ?_
              refine s_app (ys := m.lo) ?_ (hk := by intros; exact chk_held (by exact entq))
              intro a9 c9
              rw [List.nil_append]
              refine sx ?_
              refine s_bsl ([] : Bs) rfl rfl (fun b10 => ?_) (hk := by intros; exact chk_held (by exact entq))
              refine sx ?_
              refine s_app (ys := m.hi) ?_ (hk := by intros; exact chk_held (by exact entq))
              intro a13 c13
              rw [List.nil_append]
              refine sx ?_
              refine s_app (ys := m.v) ?_ (hk := by intros; exact chk_held (by exact entq))
              intro a17 c17
              rw [List.nil_append]
              refine s_subL (l' := [(132, .slice a17 m.v.length c17), (128, .slice a13 m.hi.length c13), (124, .slice a9 m.lo.length c9), (120, .int .i64 m.kd), (118, .int .u64 m.st), (116, .slice qa qs.length qc), (1, .pointer (some ⟨b1, 0, none⟩)), (2, .pointer (some ⟨b2, 0, none⟩)), (7, .pointer (some ⟨b7, 0, none⟩)), (9, .int .i64 (qs.length : Nat))]) ?_ (by repeat (first | exact trivial | refine And.intro (by first | exact rfl | exact congrArg some (ci (by omega))) ?_))
              refine s_entL (ob a9 c9 m.lo :: ob a13 c13 m.hi :: ob a17 c17 m.v :: .hb bm 56 (Cel.f m) :: .hb b7 28 [.slice pa7 ps.length pc7, .slice a cs.length c, .slice qa qs.length qc] :: ol 3 pa7 pc7 (ps.map xI) :: ol 44 a c cs :: fam 5 cs :: ol 56 qa qc qs :: stars oM qs :: G) (by exact entq) ?_
              exact key.out a9 c9 a13 c13 a17 c17
            · skip
              refine sx ?_
              refine s_bsl ([] : Bs) rfl rfl (fun b10 => ?_) (hk := by intros; exact chk_held (by exact entq))
              refine sx ?_
              refine s_app (ys := m.lo) ?_ (hk := by intros; exact chk_held (by exact entq))
              intro a9 c9
              rw [List.nil_append]
              refine sx ?_
              refine s_app (ys := m.hi) ?_ (hk := by intros; exact chk_held (by exact entq))
              intro a13 c13
              rw [List.nil_append]
              refine sx ?_
              refine s_app (ys := m.v) ?_ (hk := by intros; exact chk_held (by exact entq))
              intro a17 c17
              rw [List.nil_append]
              refine s_subL (l' := [(132, .slice a17 m.v.length c17), (128, .slice a13 m.hi.length c13), (124, .slice a9 m.lo.length c9), (120, .int .i64 m.kd), (118, .int .u64 m.st), (116, .slice qa qs.length qc), (1, .pointer (some ⟨b1, 0, none⟩)), (2, .pointer (some ⟨b2, 0, none⟩)), (7, .pointer (some ⟨b7, 0, none⟩)), (9, .int .i64 (qs.length : Nat))]) ?_ (by repeat (first | exact trivial | refine And.intro (by first | exact rfl | exact congrArg some (ci (by omega))) ?_))
              refine s_entL (ob a9 c9 m.lo :: ob a13 c13 m.hi :: ob a17 c17 m.v :: .hb bm 56 (Cel.f m) :: .hb b7 28 [.slice pa7 ps.length pc7, .slice a cs.length c, .slice qa qs.length qc] :: ol 3 pa7 pc7 (ps.map xI) :: ol 44 a c cs :: fam 5 cs :: ol 56 qa qc qs :: stars oM qs :: G) (by exact entq) ?_
              exact key.out a9 c9 a13 c13 a17 c17
          · skip
            refine sx ?_
            refine s_bsl ([] : Bs) rfl rfl (fun b10 => ?_) (hk := by intros; exact chk_held (by exact entq))
            refine sx ?_
            refine s_bsl ([] : Bs) rfl rfl (fun b6 => ?_) (hk := by intros; exact chk_held (by exact entq))
            refine sx ?_
            refine s_app (ys := m.lo) ?_ (hk := by intros; exact chk_held (by exact entq))
            intro a9 c9
            rw [List.nil_append]
            refine sx ?_
            refine s_app (ys := m.hi) ?_ (hk := by intros; exact chk_held (by exact entq))
            intro a13 c13
            rw [List.nil_append]
            refine sx ?_
            refine s_app (ys := m.v) ?_ (hk := by intros; exact chk_held (by exact entq))
            intro a17 c17
            rw [List.nil_append]
            refine s_subL (l' := [(132, .slice a17 m.v.length c17), (128, .slice a13 m.hi.length c13), (124, .slice a9 m.lo.length c9), (120, .int .i64 m.kd), (118, .int .u64 m.st), (116, .slice qa qs.length qc), (1, .pointer (some ⟨b1, 0, none⟩)), (2, .pointer (some ⟨b2, 0, none⟩)), (7, .pointer (some ⟨b7, 0, none⟩)), (9, .int .i64 (qs.length : Nat))]) ?_ (by repeat (first | exact trivial | refine And.intro (by first | exact rfl | exact congrArg some (ci (by omega))) ?_))
            refine s_entL (ob a9 c9 m.lo :: ob a13 c13 m.hi :: ob a17 c17 m.v :: .hb bm 56 (Cel.f m) :: .hb b7 28 [.slice pa7 ps.length pc7, .slice a cs.length c, .slice qa qs.length qc] :: ol 3 pa7 pc7 (ps.map xI) :: ol 44 a c cs :: fam 5 cs :: ol 56 qa qc qs :: stars oM qs :: G) (by exact entq) ?_
            exact key.out a9 c9 a13 c13 a17 c17
    · intro a9 c9 a13 c13 a17 c17
      refine sx ?_
      refine s_bsl [(⟨m.st, m.kd, a9, c9, m.lo, a13, c13, m.hi, a17, c17, m.v⟩ : Mg)] rfl rfl (fun b19 => ?_) (hk := by intros; exact chk_held (by exact entq))
      refine sx ?_
      refine s_bar ?_
      refine sx ?_
      refine s_app ?_
      intro qa2 qc2
      refine s_rw (t := 135) (v' := .slice qa2 (qs.length + 1) qc2) rfl (by simp) ?_
      refine sx ?_
      refine s_rwQ (t := 9) rfl (ci (by rw [List.length_append]; rfl : _ = (((qs ++ [(⟨m.st, m.kd, a9, c9, m.lo, a13, c13, m.hi, a17, c17, m.v⟩ : Mg)]).length : Nat) : Int))) ?_
      refine s_again ⟨qa2, qc2, qs ++ [(⟨m.st, m.kd, a9, c9, m.lo, a13, c13, m.hi, a17, c17, m.v⟩ : Mg)]⟩ ⟨by simp only [List.length_append, List.length_singleton]; omega, by rw [List.map_append, h3, List.length_append, List.length_singleton, snocT (md_get hm)]; rfl⟩ (by simp only [List.length_append, List.length_singleton]; omega) (he := ?_)
      simp only [List.length_append, List.length_singleton]
      refine Ent.cons (by exact rm) (Ent.cons (by exact rm) (Ent.cons (by exact rm) (Ent.cons (by exact rm) (Ent.cons (by exact rm) ?_))))
      exact Ent.trans (H' := ob a9 c9 m.lo :: ob a13 c13 m.hi :: ob a17 c17 m.v :: stars oM qs :: G) (Ent.cons (by exact rm) (Ent.cons (by exact rm) (Ent.cons (by exact rm) (Ent.cons (by exact rm) (Ent.tl (Ent.tl Ent.refl)))))) (stars_snoc (f := oM) (s := (⟨m.st, m.kd, a9, c9, m.lo, a13, c13, m.hi, a17, c17, m.v⟩ : Mg)))
  obtain em : qs.length = MS.length := by omega
  have h3 : qs.map Mg.d = MS.map Mg.d := by rw [h3, em]; exact List.take_of_length_le (by simp)
  refine sx ?_
  rw [List.map_append]
  refine s_retc (k := b2) (vs := [.slice pa7 ps.length pc7, .slice a cs.length c, .slice qa qs.length qc]) rfl rfl (by exact at_) rfl ⟨⟨⟨pa7, pc7, ps.map xI, a, c, cs⟩, qa, qc, qs⟩, by simp [Nd.cells], congrArg (Prod.mk _) h2, (show qs.map Mg.d = (ms.map TM).map Mg.d by rw [h3, hMS]), rfl⟩ ?_
  refine Ent.oK (k := ⟨pa7, pc7, ps.map xI, a, c, cs⟩) (by exact rm) (by exact rm) (by exact rm) ?_
  refine Ent.cons (by exact rm) (Ent.cons (by exact rm) ?_)
  rw [hMS]
  refine Ent.star ?_
  refine Ent.cons (by exact rm) (Ent.cons (by exact rm) (Ent.cons (by exact rm) (Ent.cons (by exact rm) (Ent.cons (by exact rm) (Ent.cons (by exact rm) (Ent.cons (by exact rm) ?_))))))
  exact Ent.tl (Ent.tl (Ent.tl Ent.refl))
end Go.Sx
