/- Part of a proof: several parts of a walk, one behind the other. -/
import Derived.Test.YtkcabddbeclokaaGreatCW9
namespace Go.Sx
open Go Go.Proofs
set_option maxRecDepth 10000
variable {w0 : World} {H : List Ck}
def P3 (m : Mg) : List SB := [⟨m.la, m.lc, m.lo⟩, ⟨m.ha, m.hc, m.hi⟩, ⟨m.va, m.vc, m.v⟩]
def Nd.parts (n : Nd) : List SB := n.k.ks ++ n.ms.flatMap P3
theorem p3_len (ms : List Mg) : (ms.flatMap P3).length = 3 * ms.length := by
  induction ms with
  | nil => rfl
  | cons m r ih => rw [List.flatMap_cons, List.length_append, ih, List.length_cons]; simp only [P3, List.length_cons, List.length_nil]; omega
theorem p3_snoc {ms : List Mg} {i : Nat} {m : Mg} (h : ms[i]? = some m) : (ms.take i).flatMap P3 ++ P3 m = (ms.take (i + 1)).flatMap P3 := by
  rw [snocT h, List.flatMap_append]
  simp
set_option maxHeartbeats 1000000 in
theorem nparts_s {n : Nd} (hn : RNd w0 H n) (hf : n.Lim) : FnS Tryz.prog w0 H 25 #[.agg n.cells.toArray] (fun v H' => ∃ a c, v = .slice a n.parts.length c ∧ H' = ol 44 a c n.parts :: H) := by
  refine fns_enter Tryz.func25 rfl rfl rfl ?_
  have hk := hn.k
  have hks := hk.ks
  have hms := hn.ms
  have hmsl := hms.sl
  have hp2 := hf.ks
  have hp3 := hf.ms
  refine sx ?_
  refine s_boxA rfl fun b1 => ?_
  refine sx ?_
  refine s_loop (fun i : Nat × Option Addr × Nat => [(1, .pointer (some ⟨b1, 0, none⟩)), (3, .slice i.2.1 i.1 i.2.2), (4, .int .i64 i.1)]) (fun i => ol 44 i.2.1 i.2.2 (n.k.ks.take i.1) :: .hb b1 28 n.cells :: H) (fun i => i.1 ≤ n.k.ks.length) (fun i => n.k.ks.length - i.1) (0, none, 0) (Nat.zero_le _) ?_ (he := Ent.nilS)
  rintro ⟨i, a, c⟩ hi
  simp only at hi ⊢
  have hl : (n.k.ks.take i).length = i := by rw [List.length_take]; omega
  refine sx ?_
  refine s_rw (t := 8) (v' := .pointer (some ((⟨b1, 0, none⟩ : Addr).add 1))) rfl rfl ?_
  refine sx ?_
  refine s_if rfl (fun t1 => ?_) (fun t1 => ?_)
  · obtain ⟨p, hp⟩ := get_lt n.k.ks i (by omega)
    refine sx ?_
    refine s_rw (t := 16) (v' := .pointer (some ((⟨b1, 0, none⟩ : Addr).add 1))) rfl rfl ?_
    refine sx ?_
    refine s_bsl [p] rfl rfl fun b21 => ?_
    refine s_rw (t := 14) (v' := .slice a (n.k.ks.take i).length c) rfl (by rw [hl]) ?_
    refine s_app ?_
    intro a2 c2
    refine s_rw (t := 22) (v' := .slice a2 (i + 1) c2) rfl (by rw [List.length_append, hl]; rfl) ?_
    refine sx ?_
    refine s_again (i + 1, a2, c2) (by simp only; omega) (by simp only; omega) (he := ?_)
    simp only
    rw [snocT hp]
    exact ent
  obtain rfl : i = n.k.ks.length := by omega
  rw [List.take_length]
  clear hi t1 hl
  refine sx ?_
  refine s_loop (fun i : Nat × Option Addr × Nat => [(1, .pointer (some ⟨b1, 0, none⟩)), (3, .slice i.2.1 (n.k.ks.length + 3 * i.1) i.2.2), (5, .int .i64 i.1)]) (fun i => ol 44 i.2.1 i.2.2 (n.k.ks ++ (n.ms.take i.1).flatMap P3) :: .hb b1 28 n.cells :: H) (fun i => i.1 ≤ n.ms.length) (fun i => n.ms.length - i.1) (0, a, c) (Nat.zero_le _) ?_ (he := by simpa using Ent.refl)
  rintro ⟨i, a, c⟩ hi
  simp only at hi ⊢
  have hl : (n.k.ks ++ (n.ms.take i).flatMap P3).length = n.k.ks.length + 3 * i := by rw [List.length_append, p3_len, List.length_take]; omega
  have hl3 : ((n.ms.take i).flatMap P3).length = 3 * i := by rw [p3_len, List.length_take]; omega
  refine sx ?_
  refine s_if rfl (fun t1 => ?_) (fun t1 => ?_)
  · obtain ⟨m, hm⟩ := get_lt n.ms i (by omega)
    have hm3 : (P3 m).length = 3 := rfl
    refine sx ?_; refine s_drR (ol 44 a c (n.k.ks ++ (n.ms.take i).flatMap P3)) (by exact rm) (.one true 0 (.one true 1 (.one true 2 (.one true 3 (.one true 4 (.one true 5 (.one true 6 (.one true 7 (.one true 8 (.one true 9 (.one true 10 (.one true 11 (.one true 12 (.one true 13 (.one true 14 (.one true 15 (.one true 16 (.one true 17 (.one true 18 (.one false 19 (.one false 20 (.one true 21 .nil)))))))))))))))))))))) mixed (by kernel_rfl) ?_; refine sx ?_
    refine s_bsl (P3 m) rfl rfl fun b49 => ?_
    refine s_rw (t := 30) (v' := .slice a (n.k.ks ++ (n.ms.take i).flatMap P3).length c) rfl (by rw [hl]) ?_
    refine s_app ?_
    intro a2 c2
    refine s_rw (t := 50) (v' := .slice a2 (n.k.ks.length + 3 * (i + 1)) c2) rfl (by rw [List.length_append, hl]; rfl) ?_
    refine sx ?_
    refine s_again (i + 1, a2, c2) (by simp only; omega) (by simp only; omega) (he := ?_)
    simp only
    rw [← p3_snoc hm, ← List.append_assoc]
    exact ent
  obtain rfl : i = n.ms.length := by omega
  have hpe : n.k.ks ++ (n.ms.take n.ms.length).flatMap P3 = n.parts := by rw [List.take_length]; rfl
  rw [hpe] at hl ⊢
  refine sx ?_
  exact s_ret1 rfl rfl ⟨a, c, by rw [hl], rfl⟩
end Go.Sx
namespace Go.Sx
open Go Go.Proofs
set_option maxRecDepth 10000
variable {w0 : World} {H : List Ck}
theorem Ln.rp {L : Ln} : RSl w0 (.star L.cs :: H) L.pa L.pc (L.ps ++ L.pm) := RSl.ent RSl.hd (Ent.mem' (L := L.cs) (H := H) (c := ol 3 L.pa L.pc (L.ps ++ L.pm)) (by simp [Ln.cs]))
theorem Ln.rk {L : Ln} : RSl w0 (.star L.cs :: H) L.ka L.kc (L.fs ++ [bMk L.mb]) := RSl.ent RSl.hd (Ent.mem' (L := L.cs) (H := H) (c := ol 44 L.ka L.kc (L.fs ++ [bMk L.mb])) (by simp [Ln.cs]))
theorem Ln.rm' {L : Ln} : RSl w0 (.star L.cs :: H) L.ma L.mc (L.ms ++ [mg0]) := RSl.ent RSl.hd (Ent.mem' (L := L.cs) (H := H) (c := ol 56 L.ma L.mc (L.ms ++ [mg0])) (by simp [Ln.cs]))
theorem Ln.ra {L : Ln} : RSl w0 (.star L.cs :: H) L.aa L.ac L.als := RSl.ent RSl.hd (Ent.mem' (L := L.cs) (H := H) (c := ol 44 L.aa L.ac L.als) (by simp [Ln.cs]))
theorem Ln.rb {L : Ln} : RBy w0 (.star L.cs :: H) (some ⟨L.mb, 0, none⟩) 4 mkB := RBy.ent (RBy.ro (xs := mkB) rfl (by decide)) (Ent.mem' (L := L.cs) (H := H) (c := .ro L.mb (flat mkB)) (by simp [Ln.cs]))
theorem Ln.rals {L : Ln} : ∀ s ∈ L.als, RBy w0 (.star L.cs :: H) s.a s.c s.xs := by
  intro s hs
  rcases List.mem_append.1 hs with hs | hs
  · exact RBy.ent (RBy.hd (E := 5)) ((Ent.mem' (L := L.cs) (H := H) (c := fam 5 (L.fs.map K2)) (by simp [Ln.cs])).trans (fam_mem hs))
  · obtain ⟨m, hm, hs⟩ := List.mem_flatMap.1 hs
    have h := RMg.ent (RMg.oM (w0 := w0) (H := []) (m := M2 m)) ((Ent.mem' (L := L.cs) (H := H) (c := stars oM (L.ms.map M2)) (by simp [Ln.cs])).trans (by rw [List.append_nil]; exact stars_mem (List.mem_map.2 ⟨m, hm, rfl⟩)))
    simp only [A3, List.mem_cons, List.not_mem_nil, or_false] at hs
    rcases hs with rfl | rfl | rfl
    · exact h.lo
    · exact h.hi
    · exact h.v
theorem take_by {a : Option Addr} {c : Nat} {xs ys : Bs} (h : RBy w0 H a c (xs ++ ys)) : RBy w0 H a c xs := by
  have := h.take (k := xs.length) (by simp)
  rwa [List.take_left' rfl] at this
theorem take_sl {α : Type} [Cel α] {a : Option Addr} {c : Nat} {xs ys : List α} (h : RSl w0 H a c (xs ++ ys)) : RSl w0 H a c xs := by
  have := h.take (k := xs.length) (by simp)
  rwa [List.take_left' rfl] at this
theorem Ln.rnd {L : Ln} : RNd w0 (.star L.cs :: H) L.nd := by
  refine ⟨⟨take_sl L.rp, take_sl L.rk, fun f hf => ?_⟩, ⟨take_sl L.rm', fun m hm => ⟨?_, ?_, ?_⟩⟩⟩
  · exact take_by (L.rals (K2 f) (List.mem_append_left _ (List.mem_map.2 ⟨f, hf, rfl⟩)))
  · exact take_by (L.rals ⟨m.la, m.lc, m.lo ++ mk2⟩ (List.mem_append_right _ (List.mem_flatMap.2 ⟨m, hm, by simp [A3]⟩)))
  · exact take_by (L.rals ⟨m.ha, m.hc, m.hi ++ mk2⟩ (List.mem_append_right _ (List.mem_flatMap.2 ⟨m, hm, by simp [A3]⟩)))
  · exact take_by (L.rals ⟨m.va, m.vc, m.v ++ mk2⟩ (List.mem_append_right _ (List.mem_flatMap.2 ⟨m, hm, by simp [A3]⟩)))
theorem parts_by {n : Nd} (hn : RNd w0 H n) : ∀ s ∈ n.parts, RBy w0 H s.a s.c s.xs := by
  intro s hs
  rcases List.mem_append.1 hs with hs | hs
  · exact hn.k.el s hs
  · obtain ⟨m, hm, hs⟩ := List.mem_flatMap.1 hs
    have h := hn.ms.el m hm
    simp only [P3, List.mem_cons, List.not_mem_nil, or_false] at hs
    rcases hs with rfl | rfl | rfl
    · exact h.lo
    · exact h.hi
    · exact h.v
theorem als_parts {L : Ln} {n : Nd} (hd : L.nd.k.d = n.k.d) (hm : L.nd.md = n.md) : L.als.map SB.xs = n.parts.map fun s => s.xs ++ mk2 := by
  have h1 : L.fs.map SB.xs = n.k.ks.map SB.xs := congrArg Prod.snd hd
  have h2 : L.ms.map Mg.d = n.ms.map Mg.d := hm
  have e1 : (L.fs.map K2).map SB.xs = (L.fs.map SB.xs).map (· ++ mk2) := by rw [List.map_map, List.map_map]; rfl
  have e2 : n.k.ks.map (fun s => s.xs ++ mk2) = (n.k.ks.map SB.xs).map (· ++ mk2) := by rw [List.map_map]; rfl
  have e3 : (L.ms.flatMap A3).map SB.xs = (L.ms.map Mg.d).flatMap fun d => [d.lo ++ mk2, d.hi ++ mk2, d.v ++ mk2] := by
    rw [List.map_flatMap, List.flatMap_map]; rfl
  have e4 : (n.ms.flatMap P3).map (fun s => s.xs ++ mk2) = (n.ms.map Mg.d).flatMap fun d => [d.lo ++ mk2, d.hi ++ mk2, d.v ++ mk2] := by
    rw [List.map_flatMap, List.flatMap_map]; rfl
  rw [Ln.als, Nd.parts, List.map_append, List.map_append, e1, e2, e3, e4, h1, h2]
set_option maxHeartbeats 2000000 in
theorem nstays_s {L : Ln} {n : Nd} (hpm : L.pm = [70001, 70002]) (hd : L.nd.k.d = n.k.d) (hm : L.nd.md = n.md) (hn : RNd w0 (.star L.cs :: H) n) (hf : n.Lim) :
    FnV Tryz.prog w0 (.star L.cs :: H) 8 #[.agg L.cells.toArray, .agg n.cells.toArray] (.bool true) := by
  refine fns_enter Tryz.func8 rfl rfl rfl ?_
  have rl : RNd w0 (.star L.cs :: H) L.nd := L.rnd
  have rp : RSl w0 (.star L.cs :: H) L.pa L.pc (L.ps ++ L.pm) := L.rp
  have rk : RSl w0 (.star L.cs :: H) L.ka L.kc (L.fs ++ [bMk L.mb]) := L.rk
  have rm1 : RSl w0 (.star L.cs :: H) L.ma L.mc (L.ms ++ [mg0]) := L.rm'
  have ra : RSl w0 (.star L.cs :: H) L.aa L.ac L.als := L.ra
  have rb : RBy w0 (.star L.cs :: H) (some ⟨L.mb, 0, none⟩) 4 mkB := L.rb
  have hep : n.k.ps = L.ps := (congrArg Prod.fst hd).symm
  have hek : n.k.ks.length = L.fs.length := by
    have := congrArg (fun d => d.2.length) hd
    simpa [Kd.keys, Ln.nd] using this.symm
  have hem : n.ms.length = L.ms.length := by
    have := congrArg List.length hm
    simpa [Nd.md, Ln.nd] using this.symm
  have hpr := als_parts hd hm
  have hq := parts_by hn
  have hp1 := hf.ps
  have hp2 := hf.ks
  have hp3 := hf.ms
  obtain ⟨⟨npa, npc, nps, nka, nkc, nks⟩, nma, nmc, nms⟩ := n
  simp only at hep hek hem hp1 hp2 hp3
  subst hep
  rw [hpm] at rp
  have g1 : (L.ps ++ [70001, 70002])[L.ps.length]? = some 70001 := by simp
  have g2 : (L.ps ++ [70001, 70002])[L.ps.length + 1]? = some 70002 := by simp
  have g3 : (L.fs ++ [bMk L.mb])[L.fs.length]? = some (bMk L.mb) := by simp
  have g4 : (L.ms ++ [mg0])[L.ms.length]? = some mg0 := by simp
  have lp : (L.ps ++ [70001, 70002] : List Int).length = L.ps.length + 2 := by simp
  have lk : (L.fs ++ [bMk L.mb]).length = L.fs.length + 1 := by simp
  have lm : (L.ms ++ [mg0]).length = L.ms.length + 1 := by simp
  refine s_kn (Kn.sl rp) fun l1 => s_kn (Kn.sl rk) fun l2 => s_kn (Kn.sl rm1) fun l3 => ?_
  simp only [maxLen] at l1 l2 l3
  refine sx ?_
  refine s_boxA rfl fun b2 => ?_
  refine sx ?_
  refine s_boxA rfl fun b3 => ?_
  refine sx ?_
  refine s_rw (t := 10) (v' := .agg L.nd.cells.toArray) rfl rfl ?_
  refine s_callV rfl (nsame_t (n := L.nd) (q := ⟨⟨npa, npc, L.ps, nka, nkc, nks⟩, nma, nmc, nms⟩) (by exact rnd) (by exact rnd) (Prod.ext hd hm)) ?_
  refine sx ?_
  refine s_rw (t := 14) (v' := .pointer (some ((⟨b3, 0, none⟩ : Addr).add 0))) rfl rfl ?_
  refine sx ?_
  refine s_rw (t := 6) (v' := .int .i64 L.ps.length) rfl rfl ?_
  refine s_rw (t := 22) (v' := .int .i64 L.ps.length) rfl rfl ?_
  refine sx ?_
  refine s_rw (t := 40) (v' := .pointer (some ((⟨b3, 0, none⟩ : Addr).add 1))) rfl rfl ?_
  refine sx ?_
  refine s_rw (t := 42) (v' := .int .i64 L.fs.length) rfl (by rw [← hek]) ?_
  refine sx ?_
  refine s_rw (t := 48) (v' := .bool false) rfl (by show Value.bool (!decide (mkB = mkB)) = _; rw [decide_eq_true rfl]; rfl) ?_
  refine s_rw (t := 53) (v' := .int .i64 L.ms.length) rfl (by rw [← hem]) ?_
  refine sx ?_
  have hal : L.als.length = L.fs.length + 3 * L.ms.length := als_len
  have hap : L.als.length = ((⟨⟨npa, npc, L.ps, nka, nkc, nks⟩, nma, nmc, nms⟩ : Nd)).parts.length := by
    have := congrArg List.length hpr
    simpa using this
  refine s_call rfl (nparts_s (n := (⟨⟨npa, npc, L.ps, nka, nkc, nks⟩, nma, nmc, nms⟩ : Nd)) (by exact rnd) hf) ?_
  rintro _ _ ⟨a7, c7, rfl, rfl⟩
  refine ⟨chk_seq, ?_⟩
  generalize ((⟨⟨npa, npc, L.ps, nka, nkc, nks⟩, nma, nmc, nms⟩ : Nd)).parts = PS at hpr hq hap ⊢
  refine sx ?_
  refine s_loop (fun i : Nat => [(2, .pointer (some ⟨b2, 0, none⟩)), (7, .slice a7 PS.length c7), (8, .int .i64 i)]) (fun _ => ol 44 a7 c7 PS :: .hb b2 38 L.cells :: .star L.cs :: H) (fun i => i ≤ PS.length) (fun i => PS.length - i) 0 (Nat.zero_le _) ?_
  intro i hi
  refine sx ?_
  refine s_if rfl (fun t1 => ?_) (fun t1 => ?_)
  · obtain ⟨s, hs⟩ := get_lt L.als i (by omega)
    obtain ⟨t, ht⟩ := get_lt PS i (by omega)
    have r1 := L.rals (w0 := w0) (H := H) s (List.mem_of_getElem? hs)
    have r2 := hq t (List.mem_of_getElem? ht)
    have hst : s.xs = t.xs ++ [167, 168] := by
      have := congrArg (fun l => l[i]?) hpr
      simpa [hs, ht, mk2] using this
    refine s_kn (Kn.by (RBy.tl (RBy.tl r1))) fun q1 => ?_
    simp only [maxLen, hst, List.length_append, List.length_cons, List.length_nil] at q1
    refine sx ?_; refine s_dr (.one true 0 (.one true 1 (.one true 2 (.one true 3 (.one true 4 (.one true 5 (.one true 6 (.one true 7 (.one true 8 (.one true 9 (.one true 10 (.one true 11 (.one true 12 .nil))))))))))))) mixed (by kernel_rfl) ?_; refine sx ?_
    refine s_ifn rfl (fun t2 => absurd hst t2) (fun _ => ?_)
    refine sx ?_
    exact s_again (i + 1) (by omega) (by omega)
  refine sx ?_
  exact s_ret1 rfl rfl ⟨rfl, rfl⟩
end Go.Sx
