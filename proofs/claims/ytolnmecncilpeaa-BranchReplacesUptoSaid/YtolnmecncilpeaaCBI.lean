/- Part of a proof: Out.ends, walked: all is as it came; then all is written over. -/
import Derived.Test.YtolnmecncilpeaaCBH
namespace Go.Sx
open Go Go.Proofs
set_option maxRecDepth 10000
variable {w0 : World} {H : List Ck}
/-- What a list of numbers is when all are one mark. -/
def mI (i : Nat) (s : SIn) : SIn := ⟨s.a, s.c, List.replicate s.xs.length (-1 - (i : Int))⟩
def mIs (ls : List SIn) : List SIn := ls.mapIdx mI
theorem mIs_len (ls : List SIn) : (mIs ls).length = ls.length := by simp [mIs]
theorem mIs_get {ls : List SIn} {i : Nat} {s : SIn} (h : ls[i]? = some s) : (mIs ls)[i]? = some (mI i s) := by simp [mIs, h]
theorem flat_snoc {ls : List Kd} {i : Nat} {k : Kd} (h : ls[i]? = some k) : (ls.take (i + 1)).flatMap Kd.ks = (ls.take i).flatMap Kd.ks ++ k.ks := by
  rw [snocT h, List.flatMap_append]
  simp
theorem flat_le (ls : List Kd) (i : Nat) : ((ls.take i).flatMap Kd.ks).length ≤ (ls.flatMap Kd.ks).length := by
  conv => rhs; rw [← List.take_append_drop i ls, List.flatMap_append, List.length_append]
  omega
theorem repI_all {α : Type} {m : α} {n : Nat} {xs : List α} (hn : xs.length = n) (h : ∀ j, j < n → xs[j]? = some m) : xs = List.replicate n m := by
  apply List.ext_getElem?
  intro j
  by_cases hj : j < n
  · rw [h j hj, List.getElem?_replicate, if_pos hj]
  · rw [List.getElem?_eq_none (by omega), List.getElem?_eq_none (by simp; omega)]
theorem putM {m : UInt8} {xs : Bs} {p : Nat} (h : ∀ y ∈ xs, y = m) : ∀ y ∈ putL xs p [m], y = m := fun y hy => by
  rcases putL_mem hy with h1 | h1
  · exact h y h1
  · exact List.mem_singleton.1 h1
theorem tkM {m : UInt8} {xs : Bs} {p : Nat} (h : ∀ y ∈ xs, y = m) : ∀ y ∈ xs.take p ++ [m], y = m := fun y hy => by
  rcases List.mem_append.1 hy with h1 | h1
  · exact h y (List.mem_of_mem_take h1)
  · exact List.mem_singleton.1 h1
section
variable {α β : Type} [Cel α] [Row β α] {E : TypeId} {R1 R2 R3 H' : List Ck} {F G : List β} {s : β}
theorem Ent.famK (h1 : Rm (Row.ck E s) H R1) (h2 : Rm (fam E F) R1 R2) (h : Ent R2 H') : Ent H (fam E (s :: F) :: H') :=
  ((Ent.perm h1.out).trans (Ent.head ((Ent.perm h2.out).trans (Ent.head h)))).trans fam_cons'
theorem Ent.famA (h1 : Rm (fam E F) H R1) (h2 : Rm (fam E G) R1 R2) (h : Ent R2 H') : Ent H (fam E (F ++ G) :: H') :=
  ((Ent.perm h1.out).trans (Ent.head ((Ent.perm h2.out).trans (Ent.head h)))).trans fam_app
theorem Ent.famKA (h1 : Rm (Row.ck E s) H R1) (h2 : Rm (fam E F) R1 R2) (h3 : Rm (fam E G) R2 R3) (h : Ent R3 H') : Ent H (fam E ((s :: F) ++ G) :: H') :=
  (((Ent.perm h1.out).trans (Ent.head ((Ent.perm h2.out).trans (Ent.head ((Ent.perm h3.out).trans (Ent.head h)))))).trans fam_cons').trans fam_app
end
abbrev mB (i : Nat) : UInt8 := UInt8.ofInt (1 + (i : Int) % 251)
def mB1 (i : Nat) (s : SB) : SB := ⟨s.a, s.c, List.replicate s.xs.length (mB i)⟩
def mBs (ls : List SB) : List SB := ls.mapIdx mB1
theorem mBs_len (ls : List SB) : (mBs ls).length = ls.length := by simp [mBs]
theorem mBs_get {ls : List SB} {i : Nat} {s : SB} (h : ls[i]? = some s) : (mBs ls)[i]? = some (mB1 i s) := by simp [mBs, h]
structure Ot.Ok (O : Ot) (H : List Ck) (w0 : World) : Prop where
  len : O.ws.length = O.ls.length
  n : O.ls.length ≤ 1048576
  same : ∀ (i : Nat) (k q : Kd), O.ls[i]? = some k → O.ws[i]? = some q → k.d = q.d
  ps : ∀ k ∈ O.ls, k.ps.length ≤ 4294967296
  ks : ∀ k ∈ O.ls, k.ks.length ≤ 4294967296
  tot : (O.ls.flatMap Kd.ks).length ≤ 1099511627776
  el : ∀ p ∈ O.ls.flatMap Kd.ks, p.xs.length ≤ 140737488000000
  wk : ∀ q ∈ O.ws, RKd w0 H q
set_option maxHeartbeats 4000000 in
theorem ends_s {O : Ot} (hO : O.Ok H w0) :
    FnS Try.prog w0 (O.pieces ++ .star (O.ls.map oK) :: H) 16 #[.pointer (some ⟨O.b, 0, none⟩)] (fun v H' => v = .bool true ∧ H' = H) := by
  obtain ⟨B, la, lc, ls, wa, wc, ws⟩ := O
  obtain ⟨hlen, hn, hsame, hps, hks, htot, hel, hwk⟩ := hO
  simp only at hlen hn hsame hps hks htot hel hwk
  show FnS Try.prog w0 _ _ #[.pointer (some ⟨B, 0, none⟩)] _
  refine fns_enter Try.func16 rfl rfl rfl ?_
  refine s_ent (.hb B 27 [.slice la ls.length lc, .slice wa ws.length wc] :: ol 31 la lc ls :: ol 31 wa wc ws :: .star (ls.map oK) :: H) Ent.refl ?_
  refine sx ?_
  refine s_loop (fun i : Nat => [(0, .pointer (some ⟨B, 0, none⟩)), (3, .int .i64 i)]) (fun _ => .hb B 27 [.slice la ls.length lc, .slice wa ws.length wc] :: ol 31 la lc ls :: ol 31 wa wc ws :: .star (ls.map oK) :: H) (fun i => i ≤ ls.length) (fun i => ls.length - i) 0 (Nat.zero_le _) ?_
  intro i hi
  refine sx ?_
  refine s_if rfl (fun t1 => ?_) (fun t1 => ?_)
  · obtain ⟨k, hk⟩ := get_lt ls i (by omega)
    obtain ⟨q, hq⟩ := get_lt ws i (by omega)
    have rk : RKd w0 (.hb B 27 [.slice la ls.length lc, .slice wa ws.length wc] :: ol 31 la lc ls :: ol 31 wa wc ws :: .star (ls.map oK) :: H) k := RKd.tl (RKd.tl (RKd.tl (RKd.ent (RKd.oK (H := [])) (Ent.mem' (List.mem_map.2 ⟨k, List.mem_of_getElem? hk, rfl⟩)))))
    have rq : RKd w0 (.hb B 27 [.slice la ls.length lc, .slice wa ws.length wc] :: ol 31 la lc ls :: ol 31 wa wc ws :: .star (ls.map oK) :: H) q := RKd.tl (RKd.tl (RKd.tl (RKd.tl (hwk q (List.mem_of_getElem? hq)))))
    have r1 : RSl w0 (.hb B 27 [.slice la ls.length lc, .slice wa ws.length wc] :: ol 31 la lc ls :: ol 31 wa wc ws :: .star (ls.map oK) :: H) la lc ls := by exact rsl
    have r2 : RSl w0 (.hb B 27 [.slice la ls.length lc, .slice wa ws.length wc] :: ol 31 la lc ls :: ol 31 wa wc ws :: .star (ls.map oK) :: H) wa wc ws := by exact rsl
    refine sx ?_; refine s_dr (.one true 0 (.one true 1 (.one true 2 (.one true 3 (.one true 4 (.one true 5 (.one true 6 (.one true 7 (.one true 8 (.one true 9 (.one true 10 (.one true 11 (.one true 12 (.one true 13 (.one false 14 (.one true 15 .nil)))))))))))))))) mixed (by kernel_rfl) ?_; refine sx ?_
    refine s_callV rfl (rsame_t (k := k) (q := q) (by exact rk) (by exact rq) (hsame i k q hk hq)) ?_
    refine sx ?_
    exact s_again (i + 1) (by omega) (by omega)
  clear hi t1
  refine s_ent (.hb B 27 [.slice la ls.length lc, .slice wa ws.length wc] :: ol 31 la lc ls :: fam 3 (ls.map Kd.pI) :: fam 23 (ls.map Kd.kS) :: fam 5 (ls.flatMap Kd.ks) :: H) ?_ ?_
  · refine Ent.cons (by exact rm) ?_
    refine Ent.cons (by exact rm) ?_
    refine Ent.trans (H' := .star (ls.map oK) :: H) (by exact ent) ?_
    exact oK_all ls
  refine sx ?_
  refine s_loop (fun i : Nat × Option Addr × Nat => [(0, .pointer (some ⟨B, 0, none⟩)), (4, .slice i.2.1 ((ls.take i.1).flatMap Kd.ks).length i.2.2), (5, .int .i64 i.1)]) (fun i => .hb B 27 [.slice la ls.length lc, .slice wa ws.length wc] :: ol 31 la lc ls :: fam 3 ((mIs (ls.map Kd.pI)).take i.1) :: fam 3 ((ls.map Kd.pI).drop i.1) :: ol 23 i.2.1 i.2.2 ((ls.take i.1).flatMap Kd.ks) :: fam 23 (ls.map Kd.kS) :: fam 5 (ls.flatMap Kd.ks) :: H) (fun i => i.1 ≤ ls.length) (fun i => ls.length - i.1) (0, none, 0) (Nat.zero_le _) ?_ (he := by
      refine Ent.cons (by exact rm) ?_
      refine Ent.cons (by exact rm) ?_
      exact fam_nil.trans (Ent.head (Ent.cons (by exact rm) (Ent.nilS.trans (Ent.head ent)))))
  rintro ⟨i, ga, gc⟩ hi
  simp only at hi ⊢
  refine sx ?_
  refine s_if rfl (fun t1 => ?_) (fun t1 => ?_)
  · obtain ⟨⟨kpa, kpc, kps, kka, kkc, kks⟩, hk⟩ := get_lt ls i (by omega)
    have hkm := List.mem_of_getElem? hk
    have hk1 := hps _ hkm
    have hk2 := hks _ hkm
    have hpi : (ls.map Kd.pI)[i]? = some ⟨kpa, kpc, kps⟩ := by simp [hk, Kd.pI]
    have hmi := mIs_get hpi
    simp only at hk1 hk2
    refine s_ent (ol 3 kpa kpc kps :: .hb B 27 [.slice la ls.length lc, .slice wa ws.length wc] :: ol 31 la lc ls :: fam 3 ((mIs (ls.map Kd.pI)).take i) :: fam 3 ((ls.map Kd.pI).drop (i + 1)) :: ol 23 ga gc ((ls.take i).flatMap Kd.ks) :: fam 23 (ls.map Kd.kS) :: fam 5 (ls.flatMap Kd.ks) :: H) (by
      rw [dropG hpi]
      exact (Ent.famC (by exact rm)).trans (by exact ent)) ?_
    refine sx ?_
    refine s_loop (fun j : Nat × List Int => [(0, .pointer (some ⟨B, 0, none⟩)), (4, .slice ga ((ls.take i).flatMap Kd.ks).length gc), (5, .int .i64 i), (6, .int .i64 j.1)]) (fun j => ol 3 kpa kpc j.2 :: .hb B 27 [.slice la ls.length lc, .slice wa ws.length wc] :: ol 31 la lc ls :: fam 3 ((mIs (ls.map Kd.pI)).take i) :: fam 3 ((ls.map Kd.pI).drop (i + 1)) :: ol 23 ga gc ((ls.take i).flatMap Kd.ks) :: fam 23 (ls.map Kd.kS) :: fam 5 (ls.flatMap Kd.ks) :: H) (fun j => j.1 ≤ kps.length ∧ j.2.length = kps.length ∧ ∀ x, x < j.1 → j.2[x]? = some (-1 - (i : Int))) (fun j => kps.length - j.1) (0, kps) ⟨Nat.zero_le _, rfl, fun x h => by omega⟩ ?_
    rintro ⟨j, ys⟩ ⟨hj, hyl, hys⟩
    simp only at hj hyl hys ⊢
    refine sx ?_
    refine s_if rfl (fun t2 => ?_) (fun t2 => ?_)
    · have t2 : (j : Int) < (kps.length : Int) := t2
      refine s_kn (φ := ∃ ad, kpa = some ad) (fun w hw => own_gA (c := kpc) (Sat.ownOf (c' := ol 3 kpa kpc ys) .hd hw) (by omega)) ?_
      rintro ⟨ad, rfl⟩
      refine sx ?_
      refine s_set1 (i := j) (y := (-1 - (i : Int))) rfl rfl (by exact at_) rfl (by omega) ?_
      refine sx ?_
      refine s_again (j + 1, ys.set j (-1 - (i : Int))) ⟨by simp only; omega, by simp only [List.length_set]; exact hyl, fun x hx => ?_⟩ (by simp only; omega)
      simp only at hx ⊢
      by_cases h : x = j
      · subst h
        rw [List.getElem?_set_self (by omega)]
      · rw [List.getElem?_set_ne (by omega)]
        exact hys x (by omega)
    · have t2 : ¬ (j : Int) < (kps.length : Int) := t2
      have hye : ys = List.replicate kps.length (-1 - (i : Int)) := repI_all hyl (fun x hx => hys x (by omega))
      subst hye
      have rks : RSl w0 (fam 23 (ls.map Kd.kS) :: fam 5 (ls.flatMap Kd.ks) :: H) kka kkc kks := fam_sl (s := (⟨kka, kkc, kks⟩ : SSB)) (List.mem_map.2 ⟨_, hkm, rfl⟩)
      have hfl := flat_le ls (i + 1)
      have hfs := flat_snoc hk
      have hfl2 : ((ls.take (i + 1)).flatMap Kd.ks).length = ((ls.take i).flatMap Kd.ks).length + kks.length := by rw [hfs, List.length_append]
      refine sx ?_
      refine s_app ?_ (ys := kks) (hby := by omega)
      intro ga' gc'
      refine sx ?_
      refine s_rwQ (t := 4) (v' := .slice ga' ((ls.take (i + 1)).flatMap Kd.ks).length gc') rfl (by rw [hfs]) ?_
      refine s_again (i + 1, ga', gc') (by simp only; omega) (by simp only; omega) (he := ?_)
      simp only
      rw [snocT hmi, hfs]
      refine Ent.cons (by exact rm) ?_
      refine Ent.cons (by exact rm) ?_
      refine Ent.famS (s := mI i ⟨kpa, kpc, kps⟩) (by exact rm) (by exact rm) ?_
      exact ent
  obtain rfl : i = ls.length := by omega
  rw [List.take_of_length_le (Nat.le_refl _), List.take_of_length_le (by simp [mIs_len])]
  clear hi t1
  generalize hF : ls.flatMap Kd.ks = F
  rw [hF] at htot hel
  refine sx ?_
  refine s_loop (fun i : Nat => [(0, .pointer (some ⟨B, 0, none⟩)), (4, .slice ga F.length gc), (7, .int .i64 i)]) (fun i => .hb B 27 [.slice la ls.length lc, .slice wa ws.length wc] :: ol 31 la lc ls :: fam 3 (mIs (ls.map Kd.pI)) :: ol 23 ga gc F :: fam 5 ((mBs F).take i) :: fam 5 (F.drop i) :: fam 23 (ls.map Kd.kS) :: H) (fun i => i ≤ F.length) (fun i => F.length - i) 0 (Nat.zero_le _) ?_ (he := by
      refine Ent.cons (by exact rm) ?_
      refine Ent.cons (by exact rm) ?_
      refine Ent.cons (by exact rm) ?_
      refine Ent.cons (by exact rm) ?_
      exact fam_nil.trans (Ent.head ent))
  intro i hi
  refine sx ?_
  refine s_if rfl (fun t1 => ?_) (fun t1 => ?_)
  · obtain ⟨⟨sa, sc, sx0⟩, hs⟩ := get_lt F i (by omega)
    have hsz := hel _ (List.mem_of_getElem? hs)
    have hmi := mBs_get hs
    simp only at hsz
    refine s_ent (ob sa sc sx0 :: .hb B 27 [.slice la ls.length lc, .slice wa ws.length wc] :: ol 31 la lc ls :: fam 3 (mIs (ls.map Kd.pI)) :: ol 23 ga gc F :: fam 5 ((mBs F).take i) :: fam 5 (F.drop (i + 1)) :: fam 23 (ls.map Kd.kS) :: H) (by
      rw [dropG hs]
      exact (Ent.famC (by exact rm)).trans (by exact ent)) ?_
    refine sx ?_
    refine s_loop (fun j : Nat × Bs => [(0, .pointer (some ⟨B, 0, none⟩)), (4, .slice ga F.length gc), (7, .int .i64 i), (8, .int .i64 j.1)]) (fun j => ob sa sc j.2 :: .hb B 27 [.slice la ls.length lc, .slice wa ws.length wc] :: ol 31 la lc ls :: fam 3 (mIs (ls.map Kd.pI)) :: ol 23 ga gc F :: fam 5 ((mBs F).take i) :: fam 5 (F.drop (i + 1)) :: fam 23 (ls.map Kd.kS) :: H) (fun j => j.1 ≤ sx0.length ∧ j.2.length = sx0.length ∧ ∀ x, x < j.1 → j.2[x]? = some (mB i)) (fun j => sx0.length - j.1) (0, sx0) ⟨Nat.zero_le _, rfl, fun x h => by omega⟩ ?_
    rintro ⟨j, ys⟩ ⟨hj, hyl, hys⟩
    simp only at hj hyl hys ⊢
    have rga : RSl w0 (ob sa sc ys :: .hb B 27 [.slice la ls.length lc, .slice wa ws.length wc] :: ol 31 la lc ls :: fam 3 (mIs (ls.map Kd.pI)) :: ol 23 ga gc F :: fam 5 ((mBs F).take i) :: fam 5 (F.drop (i + 1)) :: fam 23 (ls.map Kd.kS) :: H) ga gc F := by exact rsl
    refine sx ?_
    refine s_if rfl (fun t2 => ?_) (fun t2 => ?_)
    · have t2 : (j : Int) < (sx0.length : Int) := t2
      refine s_kn (φ := ∃ ad, sa = some ad) (fun w hw => own_gA (c := sc) (Sat.ownOf (c' := ob sa sc ys) .hd hw) (by omega)) ?_
      rintro ⟨ad, rfl⟩
      refine sx ?_
      refine s_set1 (i := j) (y := mB i) rfl rfl (by exact at_) rfl (by omega) ?_
      refine sx ?_
      refine s_again (j + 1, ys.set j (mB i)) ⟨by simp only; omega, by simp only [List.length_set]; exact hyl, fun x hx => ?_⟩ (by simp only; omega)
      simp only at hx ⊢
      by_cases h : x = j
      · subst h
        rw [List.getElem?_set_self (by omega)]
      · rw [List.getElem?_set_ne (by omega)]
        exact hys x (by omega)
    · have t2 : ¬ (j : Int) < (sx0.length : Int) := t2
      have hye := repI_all hyl (fun x hx => hys x (by omega))
      subst hye
      refine sx ?_
      refine s_again (i + 1) (by omega) (by omega) (he := ?_)
      rw [snocT hmi]
      refine Ent.cons (by exact rm) ?_
      refine Ent.cons (by exact rm) ?_
      refine Ent.cons (by exact rm) ?_
      refine Ent.cons (by exact rm) ?_
      refine Ent.famS (by exact rm) (by exact rm) ?_
      exact ent
  obtain rfl : i = F.length := by omega
  clear hi t1
  rw [List.take_of_length_le (by simp [mBs_len])]
  refine sx ?_
  refine s_loop (fun (i : Nat × Option Addr × Nat × List SB × List SB) => [(0, .pointer (some ⟨B, 0, none⟩)), (4, .slice ga F.length gc), (9, .slice i.2.1 i.2.2.2.1.length i.2.2.1), (10, .int .i64 i.1)])
    (fun i => .hb B 27 [.slice la ls.length lc, .slice wa ws.length wc] :: ol 31 la lc ls :: fam 3 (mIs (ls.map Kd.pI)) :: ol 23 ga gc F :: ol 23 i.2.1 i.2.2.1 i.2.2.2.1 :: fam 5 i.2.2.2.2 :: fam 5 ((mBs F).drop i.1) :: fam 23 (ls.map Kd.kS) :: H)
    (fun i => i.1 ≤ F.length ∧ i.2.2.2.1.length = i.1 ∧ (∀ j s, j < i.1 → F[j]? = some s → Vw (· = mB j) i.2.2.2.2 s.a s.c s.xs.length) ∧ (∀ j v, i.2.2.2.1[j]? = some v → Vw (· = mB j) i.2.2.2.2 v.a v.c v.xs.length))
    (fun i => F.length - i.1) (0, none, 0, [], []) ⟨Nat.zero_le _, rfl, fun j s h => by omega, fun j v h => by simp at h⟩ ?_ (he := by
      refine Ent.cons (by exact rm) ?_
      refine Ent.cons (by exact rm) ?_
      refine Ent.cons (by exact rm) ?_
      refine Ent.cons (by exact rm) ?_
      refine Ent.trans ?_ Ent.nilS
      refine Ent.trans ?_ fam_nil
      exact ent)
  rintro ⟨i, va, vc, vs, dn⟩ ⟨hi, hvl, hb1, hv1⟩
  simp only at hi hvl hb1 hv1 ⊢
  refine sx ?_
  refine s_if rfl (fun t2 => ?_) (fun t2 => ?_)
  · obtain ⟨⟨sa, sc, sx0⟩, hs⟩ := get_lt F i (by omega)
    have hsz := hel _ (List.mem_of_getElem? hs)
    have hmi := mBs_get hs
    simp only at hsz
    refine s_ent (ob sa sc (List.replicate sx0.length (mB i)) :: fam 5 ([] : List SB) :: .hb B 27 [.slice la ls.length lc, .slice wa ws.length wc] :: ol 31 la lc ls :: fam 3 (mIs (ls.map Kd.pI)) :: ol 23 ga gc F :: ol 23 va vc vs :: fam 5 dn :: fam 5 ((mBs F).drop (i + 1)) :: fam 23 (ls.map Kd.kS) :: H) (by
      rw [dropG hmi]
      refine (Ent.famC (by exact rm)).trans ?_
      refine Ent.cons (by exact rm) ?_
      exact Ent.trans (by exact ent) fam_nil) ?_
    refine sx ?_
    refine s_loop (fun (j : Nat × SB × List SB × Bs) => [(0, .pointer (some ⟨B, 0, none⟩)), (4, .slice ga F.length gc), (9, .slice va vs.length vc), (10, .int .i64 i), (11, .slice j.2.1.a j.2.2.2.length j.2.1.c), (12, .int .i64 j.1)])
      (fun j => ob j.2.1.a j.2.1.c j.2.1.xs :: fam 5 j.2.2.1 :: .hb B 27 [.slice la ls.length lc, .slice wa ws.length wc] :: ol 31 la lc ls :: fam 3 (mIs (ls.map Kd.pI)) :: ol 23 ga gc F :: ol 23 va vc vs :: fam 5 dn :: fam 5 ((mBs F).drop (i + 1)) :: fam 23 (ls.map Kd.kS) :: H)
      (fun j => j.1 ≤ 20 ∧ j.2.2.2.length = sx0.length + j.1 ∧ j.2.2.2.length ≤ j.2.1.xs.length ∧ (∀ y ∈ j.2.1.xs, y = mB i) ∧ Vw (· = mB i) (j.2.1 :: j.2.2.1) sa sc sx0.length) (fun j => 20 - j.1)
      (0, ⟨sa, sc, List.replicate sx0.length (mB i)⟩, [], sx0) ⟨Nat.zero_le _, rfl, by simp, fun y hy => List.eq_of_mem_replicate hy, ⟨_, List.mem_cons_self .., rfl, rfl, by simp [Row.xs], fun y hy => List.eq_of_mem_replicate hy⟩⟩ ?_
    rintro ⟨k, x, tl, nv⟩ ⟨hk, hnl, hnx, hxm, hbv⟩
    simp only at hk hnl hnx hxm hbv ⊢
    refine sx ?_
    refine s_if rfl (fun t3 => ?_) (fun t3 => ?_)
    · refine sx ?_
      refine s_bsl [mB i] rfl rfl fun b9 => ?_
      refine s_appP (xs := x.xs) (p := nv.length) (ys := [mB i]) ?_ ?_
      · intro hc
        have hpl := putL_len (ys := [mB i]) hnx
        refine sx ?_
        refine s_again (k + 1, ⟨x.a, x.c, putL x.xs nv.length [mB i]⟩, tl, mB i :: nv) ⟨by simp only; omega, by simp only [List.length_cons]; omega, by simp only [List.length_cons]; rw [hpl]; simp only [List.length_cons, List.length_nil]; omega, putM hxm, ?_⟩ (by simp only; omega)
        exact hbv.put rfl rfl (by simp only [Row.xs]; omega) (putM hxm)
      · intro a' c'
        refine sx ?_
        refine s_again (k + 1, ⟨a', c', x.xs.take nv.length ++ [mB i]⟩, x :: tl, mB i :: nv) ⟨by simp only; omega, by simp only [List.length_cons]; omega, by simp only [List.length_cons, List.length_append, List.length_take, List.length_nil]; omega, tkM hxm, ?_⟩ (by simp only; omega) (he := ?_)
        · exact hbv.mono (fun s h => List.mem_cons_of_mem _ h) (fun _ h => h)
        · refine Ent.cons (by exact rm) ?_
          refine Ent.famK (by exact rm) (by exact rm) ?_
          exact ent
    · refine sx ?_
      refine s_bsl [(⟨x.a, x.c, nv⟩ : SB)] rfl rfl fun b9 => ?_
      refine s_app ?_
      intro va2 vc2
      refine sx ?_
      have hin : ∀ s : SB, s ∈ x :: tl → s ∈ (x :: tl) ++ dn := fun s h => List.mem_append_left _ h
      have hin2 : ∀ s : SB, s ∈ dn → s ∈ (x :: tl) ++ dn := fun s h => List.mem_append_right _ h
      refine s_again (i + 1, va2, vc2, vs ++ [(⟨x.a, x.c, nv⟩ : SB)], (x :: tl) ++ dn) ⟨by simp only; omega, by simp only [List.length_append, List.length_cons, List.length_nil]; omega, ?_, ?_⟩ (by simp only; omega) (he := ?_)
      · intro j s hj hjs
        simp only at hj ⊢
        by_cases h : j < i
        · exact (hb1 j s h hjs).mono hin2 (fun _ h => h)
        · obtain rfl : j = i := by omega
          rw [hs] at hjs
          cases hjs
          exact hbv.mono hin (fun _ h => h)
      · intro j v hjv
        simp only at hjv ⊢
        by_cases h : j < i
        · rw [List.getElem?_append_left (by omega)] at hjv
          exact (hv1 j v hjv).mono hin2 (fun _ h => h)
        · rw [List.getElem?_append_right (by omega)] at hjv
          by_cases h0 : j - vs.length = 0
          · rw [h0] at hjv
            cases hjv
            rw [show j = i by omega]
            exact Vw.mono (p := (· = mB i)) (D := x :: tl) ⟨x, List.mem_cons_self .., rfl, rfl, hnx, hxm⟩ hin (fun _ h => h)
          · rw [List.getElem?_eq_none (by simp; omega)] at hjv
            cases hjv
      · refine Ent.cons (by exact rm) ?_
        refine Ent.cons (by exact rm) ?_
        refine Ent.cons (by exact rm) ?_
        refine Ent.cons (by exact rm) ?_
        refine Ent.cons (by exact rm) ?_
        refine Ent.famKA (by exact rm) (by exact rm) (by exact rm) ?_
        exact ent
  obtain rfl : i = F.length := by omega
  clear hi t2
  rw [List.drop_of_length_le (by simp [mBs_len])]
  refine sx ?_
  refine s_loop (fun (i : Nat × Option Addr × Nat × List SIn × Option Addr × Nat × List SSB × List SB) => [(0, .pointer (some ⟨B, 0, none⟩)), (4, .slice ga F.length gc), (9, .slice va vs.length vc), (13, .slice i.2.1 i.2.2.2.1.length i.2.2.1), (14, .slice i.2.2.2.2.1 i.2.2.2.2.2.2.1.length i.2.2.2.2.2.1), (15, .int .i64 i.1)])
    (fun i => .hb B 27 [.slice la ls.length lc, .slice wa ws.length wc] :: ol 31 la lc ls :: ol 23 ga gc F :: ol 23 va vc vs :: fam 5 dn :: ol 28 i.2.1 i.2.2.1 i.2.2.2.1 :: ol 29 i.2.2.2.2.1 i.2.2.2.2.2.1 i.2.2.2.2.2.2.1 :: fam 3 i.2.2.2.1 :: fam 3 ((mIs (ls.map Kd.pI)).drop i.1) :: fam 23 i.2.2.2.2.2.2.1 :: fam 23 ((ls.map Kd.kS).drop i.1) :: fam 5 i.2.2.2.2.2.2.2 :: H)
    (fun i => i.1 ≤ ls.length ∧ i.2.2.2.1.length = i.1 ∧ i.2.2.2.2.2.2.1.length = i.1 ∧ (∀ (j : Nat) (s : SIn), i.2.2.2.1[j]? = some s → ∀ y ∈ s.xs, y = -1 - (j : Int)) ∧ (∀ (j : Nat) (s : SSB) (k : Kd), i.2.2.2.2.2.2.1[j]? = some s → ls[j]? = some k → ∀ (x : Nat) (y : SB), k.ks.length ≤ x → s.xs[x]? = some y → y ∈ i.2.2.2.2.2.2.2 ∧ y.xs = [UInt8.ofInt (j : Int)]))
    (fun i => ls.length - i.1) (0, none, 0, [], none, 0, [], []) ⟨Nat.zero_le _, rfl, rfl, fun j s h => by simp at h, fun j s k h => by simp at h⟩ ?_ (he := by
      refine Ent.cons (by exact rm) ?_
      refine Ent.cons (by exact rm) ?_
      refine Ent.cons (by exact rm) ?_
      refine Ent.cons (by exact rm) ?_
      refine Ent.cons (by exact rm) ?_
      refine Ent.trans ?_ Ent.nilS
      refine Ent.trans ?_ Ent.nilS
      refine Ent.trans ?_ fam_nil
      refine Ent.trans (H' := fam 3 (mIs (ls.map Kd.pI)) :: fam 23 (ls.map Kd.kS) :: H) (by exact ent) ?_
      refine Ent.head ?_
      refine Ent.trans ?_ fam_nil
      refine Ent.head ?_
      exact fam_nil)
  rintro ⟨i, ma, mc, ms, na, nc, qs, os⟩ ⟨hi, hml, hql, hms, hqs⟩
  simp only at hi hml hql hms hqs ⊢
  refine sx ?_
  refine s_if rfl (fun t3 => ?_) (fun t3 => ?_)
  · obtain ⟨⟨kpa, kpc, kps, kka, kkc, kks⟩, hk⟩ := get_lt ls i (by omega)
    have hki' := hk
    have hkm := List.mem_of_getElem? hk
    have hk1 := hps _ hkm
    have hk2 := hks _ hkm
    have hpi : (ls.map Kd.pI)[i]? = some ⟨kpa, kpc, kps⟩ := by simp [hk, Kd.pI]
    have hki : (ls.map Kd.kS)[i]? = some ⟨kka, kkc, kks⟩ := by simp [hk, Kd.kS]
    have hmi := mIs_get hpi
    simp only at hk1 hk2
    refine s_ent (ol 3 kpa kpc (List.replicate kps.length (-1 - (i : Int))) :: ol 23 kka kkc kks :: .hb B 27 [.slice la ls.length lc, .slice wa ws.length wc] :: ol 31 la lc ls :: ol 23 ga gc F :: ol 23 va vc vs :: fam 5 dn :: ol 28 ma mc ms :: ol 29 na nc qs :: fam 3 ms :: fam 3 ((mIs (ls.map Kd.pI)).drop (i + 1)) :: fam 23 qs :: fam 23 ((ls.map Kd.kS).drop (i + 1)) :: fam 5 os :: H) (by
      rw [dropG hmi, dropG hki]
      refine (Ent.famC (by exact rm)).trans ?_
      refine Ent.cons (by exact rm) ?_
      refine (Ent.famC (s := (⟨kka, kkc, kks⟩ : SSB)) (by exact rm)).trans ?_
      exact ent) ?_
    refine sx ?_
    refine s_rwC (t := 16) (v' := .slice kpa (List.replicate kps.length (-1 - (i : Int))).length kpc) rfl (by simp) ?_
    refine s_loop (fun (j : Nat × Option Addr × Nat × List Int × Option Addr × Nat × List SB × List SB) => [(0, .pointer (some ⟨B, 0, none⟩)), (4, .slice ga F.length gc), (9, .slice va vs.length vc), (13, .slice ma ms.length mc), (14, .slice na qs.length nc), (15, .int .i64 i), (16, .slice j.2.1 j.2.2.2.1.length j.2.2.1), (17, .slice j.2.2.2.2.1 j.2.2.2.2.2.2.1.length j.2.2.2.2.2.1), (18, .int .i64 j.1)])
      (fun j => ol 3 j.2.1 j.2.2.1 j.2.2.2.1 :: ol 23 j.2.2.2.2.1 j.2.2.2.2.2.1 j.2.2.2.2.2.2.1 :: .hb B 27 [.slice la ls.length lc, .slice wa ws.length wc] :: ol 31 la lc ls :: ol 23 ga gc F :: ol 23 va vc vs :: fam 5 dn :: ol 28 ma mc ms :: ol 29 na nc qs :: fam 3 ms :: fam 3 ((mIs (ls.map Kd.pI)).drop (i + 1)) :: fam 23 qs :: fam 23 ((ls.map Kd.kS).drop (i + 1)) :: fam 5 j.2.2.2.2.2.2.2 :: H)
      (fun j => j.1 ≤ 20 ∧ j.2.2.2.1.length = kps.length + j.1 ∧ j.2.2.2.2.2.2.1.length = kks.length + j.1 ∧ (∀ y ∈ j.2.2.2.1, y = -1 - (i : Int)) ∧ (∀ (x : Nat) (y : SB), kks.length ≤ x → j.2.2.2.2.2.2.1[x]? = some y → y ∈ j.2.2.2.2.2.2.2 ∧ y.xs = [UInt8.ofInt (i : Int)]) ∧ ∀ y ∈ os, y ∈ j.2.2.2.2.2.2.2) (fun j => 20 - j.1)
      (0, kpa, kpc, List.replicate kps.length (-1 - (i : Int)), kka, kkc, kks, os) ⟨Nat.zero_le _, by simp, rfl, fun y hy => List.eq_of_mem_replicate hy, fun x y hx h => (by rw [List.getElem?_eq_none hx] at h; exact absurd h (by simp)), fun y hy => hy⟩ ?_
    rintro ⟨k, pa, pc, ps, qa, qc, qx, os2⟩ ⟨hk, hpl, hqxl, hpm, hqm, hos⟩
    simp only at hk hpl hqxl hpm hqm hos ⊢
    refine sx ?_
    refine s_if rfl (fun t4 => ?_) (fun t4 => ?_)
    · refine sx ?_
      refine s_bsl [(-1 - (i : Int))] rfl rfl fun b9 => ?_
      refine s_app ?_
      intro pa2 pc2
      refine sx ?_
      refine s_bsl [UInt8.ofInt (i : Int)] rfl rfl fun b10 => ?_
      refine s_bsl [(⟨some ⟨b10, 0, none⟩, 1, [UInt8.ofInt (i : Int)]⟩ : SB)] rfl rfl fun b11 => ?_
      refine s_app ?_
      intro qa2 qc2
      refine sx ?_
      refine s_again (k + 1, pa2, pc2, ps ++ [(-1 - (i : Int))], qa2, qc2, qx ++ [(⟨some ⟨b10, 0, none⟩, 1, [UInt8.ofInt (i : Int)]⟩ : SB)], os2 ++ [(⟨some ⟨b10, 0, none⟩, 1, [UInt8.ofInt (i : Int)]⟩ : SB)]) ⟨by simp only; omega, by simp only [List.length_append, List.length_cons, List.length_nil]; omega, by simp only [List.length_append, List.length_cons, List.length_nil]; omega, ?_, ?_, ?_⟩ (by simp only; omega) (he := ?_)
      · intro y hy
        rcases List.mem_append.1 hy with h | h
        · exact hpm y h
        · exact List.mem_singleton.1 h
      · intro x y hx h
        simp only at h ⊢
        rcases Nat.lt_or_ge x qx.length with h1 | h1
        · rw [List.getElem?_append_left h1] at h
          exact ⟨List.mem_append_left _ (hqm x y hx h).1, (hqm x y hx h).2⟩
        · rw [List.getElem?_append_right h1] at h
          have := List.mem_singleton.1 (List.mem_of_getElem? h)
          subst this
          exact ⟨List.mem_append_right _ (List.mem_singleton.2 rfl), rfl⟩
      · intro y hy
        exact List.mem_append_left _ (hos y hy)
      · refine Ent.cons (by exact rm) ?_
        refine Ent.cons (by exact rm) ?_
        refine Ent.cons (by exact rm) ?_
        refine Ent.cons (by exact rm) ?_
        refine Ent.cons (by exact rm) ?_
        refine Ent.cons (by exact rm) ?_
        refine Ent.cons (by exact rm) ?_
        refine Ent.cons (by exact rm) ?_
        refine Ent.cons (by exact rm) ?_
        refine Ent.cons (by exact rm) ?_
        refine Ent.cons (by exact rm) ?_
        refine Ent.cons (by exact rm) ?_
        refine Ent.cons (by exact rm) ?_
        refine Ent.famS (s := (⟨some ⟨b10, 0, none⟩, 1, [UInt8.ofInt (i : Int)]⟩ : SB)) (by exact rm) (by exact rm) ?_
        exact ent
    · refine sx ?_
      refine s_bsl [(⟨pa, pc, ps⟩ : SIn)] rfl rfl fun b9 => ?_
      refine s_app ?_
      intro ma2 mc2
      refine sx ?_
      refine s_bsl [(⟨qa, qc, qx⟩ : SSB)] rfl rfl fun b10 => ?_
      refine s_app ?_
      intro na2 nc2
      refine sx ?_
      refine s_again (i + 1, ma2, mc2, ms ++ [(⟨pa, pc, ps⟩ : SIn)], na2, nc2, qs ++ [(⟨qa, qc, qx⟩ : SSB)], os2) ⟨by simp only; omega, by simp only [List.length_append, List.length_cons, List.length_nil]; omega, by simp only [List.length_append, List.length_cons, List.length_nil]; omega, ?_, ?_⟩ (by simp only; omega) (he := ?_)
      · intro j s h
        simp only at h
        rcases Nat.lt_or_ge j ms.length with h1 | h1
        · rw [List.getElem?_append_left h1] at h
          exact hms j s h
        · have h2 := (List.getElem?_eq_some_iff.1 h).1
          simp only [List.length_append, List.length_cons, List.length_nil] at h2
          rw [List.getElem?_append_right h1] at h
          have := List.mem_singleton.1 (List.mem_of_getElem? h)
          subst this
          obtain rfl : j = i := by omega
          exact hpm
      · intro j s kd h hkd x y hx hy
        simp only at h ⊢
        rcases Nat.lt_or_ge j qs.length with h1 | h1
        · rw [List.getElem?_append_left h1] at h
          exact ⟨hos y (hqs j s kd h hkd x y hx hy).1, (hqs j s kd h hkd x y hx hy).2⟩
        · have h2 := (List.getElem?_eq_some_iff.1 h).1
          simp only [List.length_append, List.length_cons, List.length_nil] at h2
          rw [List.getElem?_append_right h1] at h
          have := List.mem_singleton.1 (List.mem_of_getElem? h)
          subst this
          obtain rfl : j = i := by omega
          rw [hki'] at hkd
          cases hkd
          exact hqm x y hx hy
      · refine Ent.cons (by exact rm) ?_
        refine Ent.cons (by exact rm) ?_
        refine Ent.cons (by exact rm) ?_
        refine Ent.cons (by exact rm) ?_
        refine Ent.cons (by exact rm) ?_
        refine Ent.cons (by exact rm) ?_
        refine Ent.cons (by exact rm) ?_
        refine Ent.famS (s := (⟨pa, pc, ps⟩ : SIn)) (by exact rm) (by exact rm) ?_
        refine Ent.cons (by exact rm) ?_
        refine Ent.famS (s := (⟨qa, qc, qx⟩ : SSB)) (by exact rm) (by exact rm) ?_
        exact ent
  obtain rfl : i = ls.length := by omega
  rw [List.drop_of_length_le (by simp [mIs_len]), List.drop_of_length_le (by simp)]
  clear hi t3
  refine sx ?_
  refine s_loop (fun i : Nat => [(0, .pointer (some ⟨B, 0, none⟩)), (4, .slice ga F.length gc), (9, .slice va vs.length vc), (13, .slice ma ms.length mc), (14, .slice na qs.length nc), (19, .int .i64 i)]) (fun _ => .hb B 27 [.slice la ls.length lc, .slice wa ws.length wc] :: ol 31 la lc ls :: ol 23 ga gc F :: ol 23 va vc vs :: fam 5 dn :: ol 28 ma mc ms :: ol 29 na nc qs :: fam 3 ms :: fam 23 qs :: fam 5 os :: H) (fun i => i ≤ vs.length) (fun i => vs.length - i) 0 (Nat.zero_le _) ?_
  intro i hi
  refine sx ?_
  refine s_if rfl (fun t4 => ?_) (fun t4 => ?_)
  · obtain ⟨⟨wa1, wc1, v1⟩, hv⟩ := get_lt vs i (by omega)
    obtain ⟨⟨wa2, wc2, v2⟩, hs⟩ := get_lt F i (by omega)
    obtain ⟨ys, y1, y2, y3⟩ := (hv1 i _ hv).by (E := 5)
    obtain ⟨zs, z1, z2, z3⟩ := (hb1 i _ (by omega) hs).by (E := 5)
    simp only at y1 z1 y3 z3
    have rv : RSl w0 (.hb B 27 [.slice la ls.length lc, .slice wa ws.length wc] :: ol 31 la lc ls :: ol 23 ga gc F :: ol 23 va vc vs :: fam 5 dn :: ol 28 ma mc ms :: ol 29 na nc qs :: fam 3 ms :: fam 23 qs :: fam 5 os :: H) va vc vs := by exact rsl
    have rg : RSl w0 (.hb B 27 [.slice la ls.length lc, .slice wa ws.length wc] :: ol 31 la lc ls :: ol 23 ga gc F :: ol 23 va vc vs :: fam 5 dn :: ol 28 ma mc ms :: ol 29 na nc qs :: fam 3 ms :: fam 23 qs :: fam 5 os :: H) ga gc F := by exact rsl
    have ry : RBy w0 (.hb B 27 [.slice la ls.length lc, .slice wa ws.length wc] :: ol 31 la lc ls :: ol 23 ga gc F :: ol 23 va vc vs :: fam 5 dn :: ol 28 ma mc ms :: ol 29 na nc qs :: fam 3 ms :: fam 23 qs :: fam 5 os :: H) wa1 wc1 ys := RBy.ent (y3 w0 []) (by exact ent)
    have rz : RBy w0 (.hb B 27 [.slice la ls.length lc, .slice wa ws.length wc] :: ol 31 la lc ls :: ol 23 ga gc F :: ol 23 va vc vs :: fam 5 dn :: ol 28 ma mc ms :: ol 29 na nc qs :: fam 3 ms :: fam 23 qs :: fam 5 os :: H) wa2 wc2 zs := RBy.ent (z3 w0 []) (by exact ent)
    clear y3 z3
    refine s_kn (Kn.by ry) fun m1 => ?_
    simp only [maxLen] at m1
    refine sx ?_
    refine s_loop (fun j : Nat => [(0, .pointer (some ⟨B, 0, none⟩)), (4, .slice ga F.length gc), (9, .slice va vs.length vc), (13, .slice ma ms.length mc), (14, .slice na qs.length nc), (19, .int .i64 i), (20, .int .i64 j)]) (fun _ => .hb B 27 [.slice la ls.length lc, .slice wa ws.length wc] :: ol 31 la lc ls :: ol 23 ga gc F :: ol 23 va vc vs :: fam 5 dn :: ol 28 ma mc ms :: ol 29 na nc qs :: fam 3 ms :: fam 23 qs :: fam 5 os :: H) (fun j => j ≤ ys.length) (fun j => ys.length - j) 0 (Nat.zero_le _) ?_
    intro j hj
    refine sx ?_
    refine s_if rfl (fun t5 => ?_) (fun t5 => ?_)
    · have t5 : (j : Int) < (v1.length : Int) := t5
      obtain ⟨y, hy⟩ := get_lt ys j (by omega)
      have := y2 y (List.mem_of_getElem? hy)
      subst this
      refine sx ?_; refine s_dr (.one true 0 (.one true 1 (.one true 2 (.one true 3 (.one true 4 (.one true 5 (.one true 6 (.one true 7 (.one true 8 (.one true 9 (.one true 10 (.one true 11 (.one true 12 (.one true 13 (.one true 14 (.one true 15 (.one true 16 (.one true 17 (.one true 18 (.one true 19 (.one true 20 (.one true 21 (.one true 22 (.one true 23 (.one true 24 (.one true 25 (.one true 26 (.one true 27 (.one true 28 (.one true 29 (.one true 30 (.one true 31 (.one true 32 (.one true 33 (.one true 34 (.one true 35 (.one true 36 (.one true 37 .nil)))))))))))))))))))))))))))))))))))))) mixed (by kernel_rfl) ?_; refine sx ?_
      refine s_rw (t := 209) (v' := .slice wa1 ys.length wc1) rfl (by show Value.slice wa1 v1.length wc1 = _; rw [y1]) ?_
      refine sx ?_
      have hyd : ys.getD j 0 = mB i := by rw [List.getD_eq_getElem?_getD, hy]; rfl
      refine s_rw (t := 218) (v' := .bool false) rfl (by rw [hyd]; simp) ?_
      refine sx ?_
      refine s_lif rfl (fun t6 => ?_) (fun t6 => ?_)
      · have t6 : (j : Int) < (v2.length : Int) := t6
        obtain ⟨z, hz⟩ := get_lt zs j (by omega)
        have := z2 z (List.mem_of_getElem? hz)
        subst this
        refine sx ?_
        refine s_rw (t := 230) (v' := .slice wa2 zs.length wc2) rfl (by show Value.slice wa2 v2.length wc2 = _; rw [z1]) ?_
        refine sx ?_
        refine s_rw (t := 237) (v' := .slice wa1 ys.length wc1) rfl (by show Value.slice wa1 v1.length wc1 = _; rw [y1]) ?_
        refine sx ?_
        have hzd : zs.getD j 0 = mB i := by rw [List.getD_eq_getElem?_getD, hz]; rfl
        refine s_rwC (t := 243) (v' := .bool false) rfl (by rw [hyd, hzd]; simp) ?_
        refine sx ?_
        exact s_again (j + 1) (by omega) (by omega)
      · refine sx ?_
        exact s_again (j + 1) (by omega) (by omega)
    · have t5 : ¬ (j : Int) < (v1.length : Int) := t5
      refine sx ?_
      exact s_again (i + 1) (by omega) (by omega)
  refine sx ?_
  refine s_loop (fun i : Nat => [(0, .pointer (some ⟨B, 0, none⟩)), (13, .slice ma ms.length mc), (14, .slice na qs.length nc), (21, .int .i64 i)]) (fun _ => .hb B 27 [.slice la ls.length lc, .slice wa ws.length wc] :: ol 31 la lc ls :: ol 23 ga gc F :: ol 23 va vc vs :: fam 5 dn :: ol 28 ma mc ms :: ol 29 na nc qs :: fam 3 ms :: fam 23 qs :: fam 5 os :: H) (fun i => i ≤ ls.length) (fun i => ls.length - i) 0 (Nat.zero_le _) ?_
  clear t4 hi
  intro i hi
  refine sx ?_
  refine s_if rfl (fun t5 => ?_) (fun t5 => ?_)
  · have t5 : (i : Int) < (ms.length : Int) := t5
    obtain ⟨⟨pa, pc, ps⟩, hp⟩ := get_lt ms i (by omega)
    obtain ⟨⟨qa, qc, qx⟩, hq⟩ := get_lt qs i (by omega)
    obtain ⟨k, hk⟩ := get_lt ls i (by omega)
    have hpm := hms i _ hp
    have hqm := hqs i _ k hq hk
    simp only at hpm hqm
    have rm1 : RSl w0 (.hb B 27 [.slice la ls.length lc, .slice wa ws.length wc] :: ol 31 la lc ls :: ol 23 ga gc F :: ol 23 va vc vs :: fam 5 dn :: ol 28 ma mc ms :: ol 29 na nc qs :: fam 3 ms :: fam 23 qs :: fam 5 os :: H) ma mc ms := by exact rsl
    have rm2 : RSl w0 (.hb B 27 [.slice la ls.length lc, .slice wa ws.length wc] :: ol 31 la lc ls :: ol 23 ga gc F :: ol 23 va vc vs :: fam 5 dn :: ol 28 ma mc ms :: ol 29 na nc qs :: fam 3 ms :: fam 23 qs :: fam 5 os :: H) na nc qs := by exact rsl
    have rm3 : RSl w0 (.hb B 27 [.slice la ls.length lc, .slice wa ws.length wc] :: ol 31 la lc ls :: ol 23 ga gc F :: ol 23 va vc vs :: fam 5 dn :: ol 28 ma mc ms :: ol 29 na nc qs :: fam 3 ms :: fam 23 qs :: fam 5 os :: H) la lc ls := by exact rsl
    have rp : RSl w0 (.hb B 27 [.slice la ls.length lc, .slice wa ws.length wc] :: ol 31 la lc ls :: ol 23 ga gc F :: ol 23 va vc vs :: fam 5 dn :: ol 28 ma mc ms :: ol 29 na nc qs :: fam 3 ms :: fam 23 qs :: fam 5 os :: H) pa pc ps := RSl.ent (fam_sl (H := []) (List.mem_of_getElem? hp)) (by exact ent)
    have rq : RSl w0 (.hb B 27 [.slice la ls.length lc, .slice wa ws.length wc] :: ol 31 la lc ls :: ol 23 ga gc F :: ol 23 va vc vs :: fam 5 dn :: ol 28 ma mc ms :: ol 29 na nc qs :: fam 3 ms :: fam 23 qs :: fam 5 os :: H) qa qc qx := RSl.ent (fam_sl (H := []) (List.mem_of_getElem? hq)) (by exact ent)
    refine s_kn (Kn.sl rp) fun m1 => s_kn (Kn.sl rq) fun m2 => ?_
    simp only [maxLen] at m1 m2
    refine sx ?_
    refine s_loop (fun j : Nat => [(0, .pointer (some ⟨B, 0, none⟩)), (13, .slice ma ms.length mc), (14, .slice na qs.length nc), (21, .int .i64 i), (22, .int .i64 j)]) (fun _ => .hb B 27 [.slice la ls.length lc, .slice wa ws.length wc] :: ol 31 la lc ls :: ol 23 ga gc F :: ol 23 va vc vs :: fam 5 dn :: ol 28 ma mc ms :: ol 29 na nc qs :: fam 3 ms :: fam 23 qs :: fam 5 os :: H) (fun j => j ≤ ps.length) (fun j => ps.length - j) 0 (Nat.zero_le _) ?_
    intro j hj
    refine sx ?_
    refine s_if rfl (fun t6 => ?_) (fun t6 => ?_)
    · have t6 : (j : Int) < (ps.length : Int) := t6
      obtain ⟨y, hy⟩ := get_lt ps j (by omega)
      have := hpm y (List.mem_of_getElem? hy)
      subst this
      refine sx ?_
      exact s_again (j + 1) (by omega) (by omega)
    · refine sx ?_
      refine s_loop (fun j : Nat => [(0, .pointer (some ⟨B, 0, none⟩)), (13, .slice ma ms.length mc), (14, .slice na qs.length nc), (21, .int .i64 i), (23, .int .i64 j)]) (fun _ => .hb B 27 [.slice la ls.length lc, .slice wa ws.length wc] :: ol 31 la lc ls :: ol 23 ga gc F :: ol 23 va vc vs :: fam 5 dn :: ol 28 ma mc ms :: ol 29 na nc qs :: fam 3 ms :: fam 23 qs :: fam 5 os :: H) (fun j => k.ks.length ≤ j) (fun j => qx.length - j) k.ks.length (Nat.le_refl _) ?_
      clear t6 hj
      intro j hj
      refine sx ?_
      refine s_if rfl (fun t6 => ?_) (fun t6 => ?_)
      · have t6 : (j : Int) < (qx.length : Int) := t6
        obtain ⟨⟨xa, xc, x⟩, hx⟩ := get_lt qx j (by omega)
        obtain ⟨hx1, hx2⟩ := hqm j _ hj hx
        simp only at hx2
        subst hx2
        have hx0 : ([UInt8.ofInt (i : Int)] : Bs).length = 1 := rfl
        have rx : RBy w0 (.hb B 27 [.slice la ls.length lc, .slice wa ws.length wc] :: ol 31 la lc ls :: ol 23 ga gc F :: ol 23 va vc vs :: fam 5 dn :: ol 28 ma mc ms :: ol 29 na nc qs :: fam 3 ms :: fam 23 qs :: fam 5 os :: H) xa xc [UInt8.ofInt (i : Int)] := RBy.ent (fam_by (E := 5) (H := []) hx1) (by exact ent)
        refine s_kn (φ := ∃ ad, xa = some ad) (fun w hw => by
          have h := rx w hw
          cases xa with
          | none =>
            have h1 := h.nil rfl
            have h2 := h.le
            omega
          | some ad => exact ⟨ad, rfl⟩) ?_
        rintro ⟨ad, rfl⟩
        refine sx ?_
        refine s_rw (t := 303) (v' := .slice (some ad) ([UInt8.ofInt (i : Int)] : Bs).length xc) rfl rfl ?_
        refine sx ?_
        refine s_rwC (t := 309) (v' := .bool false) rfl (by simp) ?_
        refine sx ?_
        exact s_again (j + 1) (by omega) (by omega)
      · refine sx ?_
        exact s_again (i + 1) (by omega) (by omega)
  refine sx ?_
  exact s_ret1 rfl rfl ⟨rfl, rfl⟩
end Go.Sx
