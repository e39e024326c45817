/- A node's bytes are read, by the program. -/
import Derived.Test.YtkcabddbeclokaaGreatCVE
namespace Go.Sx
open Go Go.Proofs
set_option maxRecDepth 10000
variable {w0 : World} {H : List Ck}
theorem takeS_ok {n : Nat} {s : SrcB} (h : (takeS n s).2.2 = false) : s.2 = false ∧ (takeS n s).1.length = n ∧ s.1.length = n + (takeS n s).2.1.length := by
  unfold takeS at h ⊢
  split at h
  · cases h
  · rename_i g
    rw [if_neg g]
    have : s.2 = false ∧ n ≤ s.1.length := ⟨by cases e : s.2 <;> simp [e] at g ⊢, by omega⟩
    refine ⟨this.1, by rw [List.length_take]; omega, by rw [List.length_drop]; omega⟩
theorem numS_ok {k : Nat} {s : SrcB} (h : (numS k s).2.2 = false) : s.2 = false ∧ s.1.length = k + (numS k s).2.1.length := by
  obtain ⟨h1, h2, h3⟩ := takeS_ok (n := k) (s := s) h
  exact ⟨h1, h3⟩
theorem oneS_ok {s : SrcB} (h : (oneS s).2.2 = false) : s.1.length = lenM (oneS s).1 + (oneS s).2.1.length := by
  unfold oneS at h ⊢
  simp only at h ⊢
  obtain ⟨f1, f2, f3⟩ := takeS_ok h
  obtain ⟨g1, g2, g3⟩ := takeS_ok f1
  obtain ⟨a1, a2⟩ := numS_ok g1
  obtain ⟨b1, b2⟩ := numS_ok a1
  obtain ⟨c1, c2⟩ := numS_ok b1
  obtain ⟨d1, d2⟩ := numS_ok c1
  have e : ∀ m : MD, lenM m = 13 + m.lo.length + m.hi.length + m.v.length := fun _ => rfl
  rw [e]
  simp only
  split
  · simp only [List.length_nil]; omega
  · simp only [List.length_nil]; omega
theorem loopS_ok : ∀ (k : Nat) (out : List MD) (s : SrcB), (loopS k out s).2.2 = false → s.1.length + sumM out = sumM (loopS k out s).1 + (loopS k out s).2.1.length
  | 0, out, s, _ => by rw [loopS]; simp only; omega
  | k + 1, out, s, h => by
    rw [loopS] at h ⊢
    split at h
    · rename_i g
      rw [g] at h
      cases h
    · rename_i g
      rw [if_neg g]
      have h1 := loopS_ok k _ _ h
      rw [sumM_snoc] at h1
      have hb : ∀ (k : Nat) (out : List MD) (s : SrcB), (loopS k out s).2.2 = false → s.2 = false := by
        intro k
        induction k with
        | zero => intro out s h; exact h
        | succ k ih =>
          intro out s h
          rw [loopS] at h
          split at h
          · exact h
          · rename_i g; simpa using g
      have h2 := oneS_ok (s := s) (hb k _ _ h)
      omega
theorem decM_sum {size : Int} {xs : Bs} {l : List MD} (h : decM size xs = some l) : xs.length = 4 + sumM l := by
  unfold decM at h
  split at h
  · rename_i g
    obtain ⟨_, g2, g3, _⟩ := g
    injection h with h
    unfold srcM at g2 g3 h
    have h1 := loopS_ok _ _ _ g2
    have hb : ∀ (k : Nat) (out : List MD) (s : SrcB), (loopS k out s).2.2 = false → s.2 = false := by
      intro k
      induction k with
      | zero => intro out s h; exact h
      | succ k ih =>
        intro out s h
        rw [loopS] at h
        split at h
        · exact h
        · rename_i g; simpa using g
    have h2 := numS_ok (k := 4) (s := (xs, false)) (hb _ _ _ g2)
    have h3 : sumM ([] : List MD) = 0 := rfl
    rw [h] at h1
    simp only at h2
    omega
  · cases h
theorem decD_I64 {size : Int} {xs : Bs} : ∀ n ∈ (decD size xs).1, 0 ≤ n ∧ n < 65536 := by
  intro n hn
  unfold decD decK at hn
  split at hn
  · rename_i hs
    cases e : readK xs with
    | none => rw [e] at hn; cases hn
    | some d =>
      rw [e] at hn
      by_cases g : chkK size d = 0
      · have : ((some d).bind fun d => if chkK size d = 0 then some d else none) = some d := if_pos g
        rw [this] at hn
        obtain ⟨hs, ⟨hf, h2, hp⟩, hy, hR, hB⟩ := chkK_0 g
        have := hp.2 n hn
        omega
      · have : ((some d).bind fun d => if chkK size d = 0 then some d else none) = none := if_neg g
        rw [this] at hn
        cases hn
  · cases hn
theorem stars_app {β : Type} {f : β → List Ck} {F G : List β} {H : List Ck} : Ent (stars f F :: stars f G :: H) (stars f (F ++ G) :: H) := Ent.open (Ent.trans (Ent.appL (Ent.open Ent.refl)) (Ent.star (by
  rw [List.flatMap_append, List.append_assoc]
  exact Ent.refl)))
/-- Are these a node's bytes? -/
def IsN (size : Int) (xs : Bs) (d : List Int × List Bs) (ms : List MD) : Prop := chkN size d ms = 0 ∧ encN d ms = xs
theorem isN_len {size : Int} {d : List Int × List Bs} {ms : List MD} (h : chkN size d ms = 0) : ms.length < 4294967296 := by
  obtain ⟨g1, g2, g3, g4⟩ := chkN_0 h
  have hs := sizedB_bd (chkK_0 g1).1
  have h1 := sumM_len ms
  have h2 : bytesM ms = 4 + sumM ms := rfl
  omega
theorem isN_kids {size : Int} {d : List Int × List Bs} {ms : List MD} (h : chkN size d ms = 0) : kidsB (encN d ms) = some (bytesK d) := by
  obtain ⟨hs, ⟨hf, h2, hp⟩, hy, hR, hB⟩ := chkK_0 (chkN_0 h).1
  have hb := sizedB_bd hs
  have hbk : bytesK d = 2 + 4 * d.1.length + keysB d.2 := rfl
  refine kidsB_enc hf (by omega) fun k hk => ?_
  have := hy k hk
  omega
theorem IsN.uniq {size : Int} {xs : Bs} {d d' : List Int × List Bs} {ms ms' : List MD} (h : IsN size xs d ms) (h' : IsN size xs d' ms') : d = d' ∧ ms = ms' := by
  obtain ⟨c, e⟩ := h
  obtain ⟨c', e'⟩ := h'
  have k := isN_kids c
  have k' := isN_kids c'
  rw [← e', encN] at e
  have hl := encK_len d
  have hl' := encK_len d'
  rw [encN, e, k'] at k
  injection k with k
  rw [encN] at e
  obtain ⟨e1, e2⟩ := List.append_inj e (by omega)
  have hd : d = d' := by
    have h1 := (dec_back (chkN_0 c).1).2
    have h2 := (dec_back (chkN_0 c').1).2
    rw [← h1, e1, h2]
  refine ⟨hd, ?_⟩
  have s1 := srcM_enc (chkN_canon c) (isN_len c)
  have s2 := srcM_enc (chkN_canon c') (isN_len c')
  rw [e2, s2] at s1
  injection s1 with s1
  exact s1.symm
theorem kidsL_le {xs : Bs} : ∀ (k p : Nat) {q : Nat}, kidsL xs k p = some q → q ≤ xs.length
  | 0, p, q, h => by
    rw [kidsL] at h
    split at h
    · cases h
    · injection h with h; omega
  | k + 1, p, q, h => by
    rw [kidsL] at h
    split at h
    · cases h
    · exact kidsL_le k _ h
theorem kidsB_le {xs : Bs} {q : Nat} (h : kidsB xs = some q) : q ≤ xs.length := by
  rw [kidsB] at h
  split at h
  · cases h
  · exact kidsL_le _ _ h
theorem nextB_le {xs : Bs} {q : Nat} (h : nextB xs = some q) : 13 ≤ q ∧ q ≤ xs.length := by
  rw [nextB] at h
  split at h
  · cases h
  split at h
  · cases h
  · injection h with h; omega
theorem decME_0 {size : Int} {xs : Bs} (h : decME size xs = 0) : ∃ l, decM size xs = some l := by
  unfold decME at h
  split at h
  · cases h
  split at h
  · rename_i g; exact Option.isSome_iff_exists.1 g
  · cases h
theorem decME_some {size : Int} {xs : Bs} {l : List MD} (h : decM size xs = some l) : decME size xs = 0 := by
  have hs : sizedB size = true := by
    unfold decM at h
    split at h
    · rename_i g; exact g.1
    · cases h
  rw [decME, if_neg (by rw [hs]; decide), h]
  rfl
abbrev nd0 : Nd := ⟨kd0, none, 0, []⟩
abbrev oN (n : Nd) (H : List Ck) : List Ck := oK n.k :: ol 56 n.ma n.mc n.ms :: stars oM n.ms :: H
theorem RNd.oN {n : Nd} : RNd w0 (oN n H) n := ⟨by exact rkd, ⟨RSl.hd.tl, fun m hm => ((RMg.oM (H := [])).ent (by rw [List.append_nil]; exact stars_mem hm)).tl.tl⟩⟩
theorem hnilN {H : List Ck} : Ent H (oN nd0 H) := hnilK.trans (Ent.head nilM)
abbrev NrdR (size : Int) (xs : Bs) (H : List Ck) : Value → List Ck → Prop := fun v H' => ∃ (n : Nd) (ok : Bool), v = .tuple #[.agg n.cells.toArray, .bool ok] ∧ (∀ d ms, IsN size xs d ms → ok = true ∧ n.k.d = d ∧ n.md = ms) ∧ (∀ p ∈ n.k.ps, I64 p) ∧ sumM n.md ≤ xs.length ∧ H' = oN n H
theorem nsized_s {size : Int} : FnV Tryz.prog w0 H 33 #[.int .i64 size] (.bool (sizedB size)) := by
  refine fns_enter Tryz.func33 rfl rfl rfl ?_
  unfold sizedB
  refine sx ?_
  refine s_lif rfl (fun t1 => ?_) (fun t1 => ?_)
  · refine sx ?_
    refine s_ret1 rfl rfl ⟨?_, rfl⟩
    rw [decide_eq_true t1, Bool.true_or, Bool.true_or, Bool.true_or]
  rw [decide_eq_false t1, Bool.false_or]
  refine sx ?_
  refine s_lif rfl (fun t2 => ?_) (fun t2 => ?_)
  · refine sx ?_
    refine s_ret1 rfl rfl ⟨?_, rfl⟩
    rw [decide_eq_true t2, Bool.true_or, Bool.true_or]
  rw [decide_eq_false t2, Bool.false_or]
  refine sx ?_
  refine s_lif rfl (fun t3 => ?_) (fun t3 => ?_)
  · refine sx ?_
    refine s_ret1 rfl rfl ⟨?_, rfl⟩
    rw [decide_eq_true t3, Bool.true_or]
  rw [decide_eq_false t3, Bool.false_or]
  refine sx ?_
  exact s_ret1 rfl rfl ⟨rfl, rfl⟩
set_option maxHeartbeats 2000000 in
theorem nread_s {size : Int} {a : Option Addr} {c : Nat} {xs : Bs} (hx : RBy w0 H a c xs) (hl : xs.length ≤ 4294967296) : FnS Tryz.prog w0 H 34 #[.int .i64 size, .slice a xs.length c] (NrdR size xs H) := by
  refine fns_enter Tryz.func34 rfl rfl rfl ?_
  have hbad : (∀ d ms, ¬ IsN size xs d ms) → NrdR size xs H (.tuple #[.agg nd0.cells.toArray, .bool false]) (oN nd0 H) := fun h => ⟨nd0, false, rfl, fun d ms g => absurd g (h d ms), fun p hp => (by cases hp), Nat.zero_le _, rfl⟩
  refine s_kn (Kn.by hx) fun l1 => ?_
  simp only [maxLen] at l1
  refine sx ?_
  refine s_alloc fun b4 => ?_
  refine sx ?_
  refine s_callV rfl (nkids_s (by exact rby) (by omega)) ?_
  refine sx ?_
  have hkb : ∀ d ms, IsN size xs d ms → kidsB xs = some (bytesK d) ∧ bytesK d + 4 ≤ xs.length := fun d ms g => by
    have h1 := isN_kids g.1
    have h2 := encK_len d
    have h3 := congrArg List.length g.2
    rw [encN, List.length_append, h2, layM_len] at h3
    have h4 : bytesM ms = 4 + sumM ms := rfl
    rw [g.2] at h1
    exact ⟨h1, by omega⟩
  cases hk : kidsB xs with
  | none =>
    have hno : ∀ d ms, ¬ IsN size xs d ms := fun d ms g => by
      have := (hkb d ms g).1
      rw [hk] at this
      cases this
    simp only [optI]
    refine sx ?_
    exact s_retcv rfl rfl rfl (by exact at_) rfl (hbad hno) ((Ent.tl Ent.refl).trans hnilN)
  | some p =>
  have hp : p ≤ xs.length := kidsB_le hk
  simp only [optI]
  refine sx ?_
  refine s_if rfl (fun t1 => ?_) (fun t1 => ?_)
  · have hno : ∀ d ms, ¬ IsN size xs d ms := fun d ms g => by
      obtain ⟨h1, h2⟩ := hkb d ms g
      rw [hk] at h1
      injection h1 with h1
      omega
    refine sx ?_
    exact s_retcv rfl rfl rfl (by exact at_) rfl (hbad hno) ((Ent.tl Ent.refl).trans hnilN)
  have hpl : (xs.take p).length = p := by rw [List.length_take]; omega
  have hK : ∀ d ms, IsN size xs d ms → p = bytesK d ∧ xs.take p = encK d ∧ decE size (xs.take p) = 0 ∧ decD size (xs.take p) = d ∧ xs.drop (p + 4) = ms.flatMap encM1 := fun d ms g => by
    have h1 := (hkb d ms g).1
    rw [hk] at h1
    injection h1 with h1
    have h2 := encK_len d
    have h3 : xs.take p = encK d := by
      rw [← g.2, encN, h1, ← h2]
      exact List.take_left
    have h4 := dec_back (chkN_0 g.1).1
    refine ⟨h1, h3, by rw [h3]; exact h4.1, by rw [h3]; exact h4.2, ?_⟩
    have h5 : (nbN 4 ms.length).length = 4 := nbN_len _ _
    have h6 : encN d ms = (encK d ++ nbN 4 ms.length) ++ ms.flatMap encM1 := by rw [encN, layM, List.append_assoc]
    have h7 : p + 4 = (encK d ++ nbN 4 ms.length).length := by rw [List.length_append, h5]; omega
    rw [← g.2, h6, h7]
    exact List.drop_left
  refine sx ?_
  refine s_rw (t := 29) (v' := .slice a (xs.take p).length c) rfl (by rw [hpl]) ?_
  refine s_call rfl (bdecode_s (size := size) (xs := xs.take p) (RBy.take (by exact rby) (by omega))) ?_
  rintro _ _ ⟨k, rfl, hkd, rfl⟩
  refine ⟨chk_seq, ?_⟩
  have hkI : ∀ n ∈ k.ps, I64 n := fun n hn => by
    have : n ∈ k.d.1 := hn
    rw [hkd] at this
    have := decD_I64 n this
    constructor <;> omega
  generalize hee : decE size (xs.take p) = e at hK ⊢
  refine sx ?_
  refine s_alloc fun b7 => ?_
  refine sx ?_
  refine s_ifn rfl (fun t2 => ?_) (fun t2 => ?_)
  · have hno : ∀ d ms, ¬ IsN size xs d ms := fun d ms g => t2 (hK d ms g).2.2.1
    refine sx ?_
    exact s_retcv rfl rfl rfl (by exact at_) rfl (hbad hno) ((Ent.tl (Ent.tl (Ent.tl Ent.refl))).trans hnilN)
  refine sx ?_
  refine s_rw (t := 37) (v' := .agg [Value.slice k.pa k.ps.length k.pc, .slice k.ka k.ks.length k.kc, .slice none ([] : List Mg).length 0].toArray) rfl rfl ?_
  refine s_alloc fun b9 => ?_
  refine sx ?_
  refine s_rw (t := 40) (v' := .int .i64 ((p + 4 : Nat) : Int)) rfl (ci (by omega)) ?_
  refine sx ?_
  refine s_rwC (t := 1) (v' := .slice (Sx.sl a c (p + 4) 1) (xs.drop (p + 4)).length (c - (p + 4))) rfl (by rw [List.length_drop]) ?_
  refine s_ent (.hb b9 28 [.slice k.pa k.ps.length k.pc, .slice k.ka k.ks.length k.kc, .slice none ([] : List Mg).length 0] :: oK k :: ol 56 none 0 ([] : List Mg) :: stars oM ([] : List Mg) :: .hb b4 28 [.slice none 0 0, .slice none 0 0, .slice none 0 0] :: H) (Ent.head (Ent.tl (Ent.head nilM))) ?_
  refine s_loop (fun i : (Option Addr × Nat × Bs) × (Option Addr × Nat × List Mg) => [(0, .int .i64 size), (1, .slice i.1.1 i.1.2.2.length i.1.2.1), (4, .pointer (some ⟨b4, 0, none⟩)), (9, .pointer (some ⟨b9, 0, none⟩))]) (fun i => .hb b9 28 [.slice k.pa k.ps.length k.pc, .slice k.ka k.ks.length k.kc, .slice i.2.1 i.2.2.2.length i.2.2.1] :: oK k :: ol 56 i.2.1 i.2.2.1 i.2.2.2 :: stars oM i.2.2.2 :: .hb b4 28 [.slice none 0 0, .slice none 0 0, .slice none 0 0] :: H) (fun i => RBy w0 H i.1.1 i.1.2.1 i.1.2.2 ∧ sumM (i.2.2.2.map Mg.d) + i.1.2.2.length ≤ xs.length ∧ ∀ d ms, IsN size xs d ms → ∃ j, i.2.2.2.map Mg.d = ms.take j ∧ i.1.2.2 = (ms.drop j).flatMap encM1) (fun i => i.1.2.2.length) ((Sx.sl a c (p + 4) 1, c - (p + 4), xs.drop (p + 4)), (none, 0, [])) ⟨RBy.drop hx (by omega), by simp only [List.length_drop]; have : sumM (([] : List Mg).map Mg.d) = 0 := rfl; omega, fun d ms g => ⟨0, rfl, (hK d ms g).2.2.2.2⟩⟩ ?_
  rintro ⟨⟨ra, rc, rs⟩, ma, mc, ms⟩ ⟨hr, hsum, hinv⟩
  simp only at hr hsum hinv ⊢
  refine sx ?_
  refine s_if rfl (fun t3 => ?_) (fun t3 => ?_)
  · have hone : ∀ d ms', IsN size xs d ms' → ∃ j m, ms.map Mg.d = ms'.take j ∧ ms'[j]? = some m ∧ rs = encM1 m ++ (ms'.drop (j + 1)).flatMap encM1 ∧ nextB rs = some (lenM m) ∧ decM size (nbN 4 1 ++ encM1 m) = some [m] := fun d ms' g => by
      obtain ⟨j, h1, h2⟩ := hinv d ms' g
      have hj : j < ms'.length := by
        refine Nat.lt_of_not_le fun hj => ?_
        rw [List.drop_eq_nil_of_le hj] at h2
        rw [h2] at t3
        exact absurd t3 (by decide)
      obtain ⟨m, hm⟩ := get_lt ms' j hj
      have hc := chkN_canon g.1 m (List.mem_of_getElem? hm)
      have hd := mayG_all (chkN_0 g.1).2.2.1 m (List.mem_of_getElem? hm)
      rw [dropC hm, List.flatMap_cons] at h2
      exact ⟨j, m, h1, hm, h2, by rw [h2]; exact nextB_enc hc, decM_one hd⟩
    refine sx ?_
    refine s_callV rfl (nnext_s (by exact rby) (by omega)) ?_
    cases hn : nextB rs with
    | none =>
      have hno : ∀ d ms, ¬ IsN size xs d ms := fun d ms g => by
        obtain ⟨j, m, h1, h2, h3, h4, h5⟩ := hone d ms g
        rw [hn] at h4
        cases h4
      simp only [optI]
      refine sx ?_
      exact s_retcv rfl rfl rfl (by exact at_) rfl (hbad hno) ((Ent.tl (Ent.tl (Ent.tl (Ent.tl (Ent.tl Ent.refl))))).trans hnilN)
    | some n =>
    obtain ⟨n1, n2⟩ := nextB_le hn
    refine s_knL (Kn.by (a := ra) (c := rc) (xs := rs) (by exact rby)) fun l2 => ?_
    simp only [maxLen] at l2
    simp only [optI]
    refine sx ?_
    have htl : (rs.take n).length = n := by rw [List.length_take]; omega
    refine s_bsl ([0, 0, 0, 1] : Bs) rfl rfl fun b52 => ?_
    refine sx ?_
    refine s_rw (t := 55) (v' := .slice ra (rs.take n).length rc) rfl (by rw [htl]) ?_
    refine s_app (xs := ([0, 0, 0, 1] : Bs)) (ys := rs.take n) ?_ (hm := rfl) (hsrc := (RBy.take (k := n) (by exact rby) (by omega)).sl') (hby := by simp only [List.length_cons, List.length_nil]; omega)
    intro a2 c2
    have e4 : ([0, 0, 0, 1] : Bs) ++ rs.take n = nbN 4 1 ++ rs.take n := rfl
    rw [e4]
    have h5 : (nbN 4 1 ++ rs.take n).length = 4 + n := by rw [List.length_append, nbN_len, htl]
    have hone' : ∀ d ms', IsN size xs d ms' → ∃ j m, ms.map Mg.d = ms'.take j ∧ ms'[j]? = some m ∧ rs.drop n = (ms'.drop (j + 1)).flatMap encM1 ∧ decM size (nbN 4 1 ++ rs.take n) = some [m] := fun d ms' g => by
      obtain ⟨j, m, h1, h2, h3, h4, h6⟩ := hone d ms' g
      rw [hn] at h4
      injection h4 with h4
      have h7 := encM1_len m
      have h8 : rs.take n = encM1 m := by rw [h3, h4, ← h7]; exact List.take_left
      have h9 : rs.drop n = (ms'.drop (j + 1)).flatMap encM1 := by rw [h3, h4, ← h7]; exact List.drop_left
      exact ⟨j, m, h1, h2, h9, by rw [h8]; exact h6⟩
    generalize nbN 4 1 ++ rs.take n = es at h5 hone' ⊢
    refine sx ?_
    refine s_call rfl (mdecode_s (size := size) (xs := es) (by exact rby) (by omega)) ?_
    rintro _ _ ⟨a3, c3, l, rfl, hld, rfl⟩
    refine ⟨chk_seq, ?_⟩
    have hlb : decME size es = 0 → sumM (l.map Mg.d) = n := fun h => by
      obtain ⟨L, hL⟩ := decME_0 h
      have := decM_sum hL
      rw [hld, hL]
      show sumM L = n
      omega
    have hde : ∀ d ms', IsN size xs d ms' → decME size es = 0 := fun d ms' g => by
      obtain ⟨j, m, h1, h2, h3, h4⟩ := hone' d ms' g
      exact decME_some h4
    generalize decME size es = e2 at hlb hde ⊢
    refine sx ?_
    refine s_ifn rfl (fun t4 => ?_) (fun t4 => ?_)
    · refine sx ?_
      exact s_retcv rfl rfl rfl (by exact at_) rfl (hbad fun d ms g => t4 (hde d ms g)) (Ent.trans (H' := H) (Ent.tl (Ent.tl (Ent.tl (Ent.tl (Ent.tl (Ent.tl (Ent.tl (Ent.tl Ent.refl)))))))) hnilN)
    refine sx ?_
    have hlb' := hlb t4
    have hm1 := sumM_len (ms.map Mg.d)
    have hm2 := sumM_len (l.map Mg.d)
    rw [List.length_map] at hm1 hm2
    refine s_app (xs := ms) (ys := l) ?_ (hby := by omega)
    intro a6 c6
    refine sx ?_
    refine s_rwQ (t := 1) (v' := .slice (Sx.sl ra rc n 1) (rs.drop n).length (rc - n)) rfl (by rw [List.length_drop]) ?_
    refine s_again ((Sx.sl ra rc n 1, rc - n, rs.drop n), (a6, c6, ms ++ l)) ⟨RBy.drop hr (by omega), ?_, ?_⟩ (by simp only [List.length_drop]; omega) (he := ?_)
    · simp only [List.map_append, sumM_app, List.length_drop]; omega
    · intro d ms' g
      obtain ⟨j, m, h1, h2, h3, h4⟩ := hone' d ms' g
      refine ⟨j + 1, ?_, h3⟩
      simp only [List.map_append]
      rw [hld, h4, h1]
      show ms'.take j ++ [m] = _
      rw [List.take_add_one, h2]
      rfl
    · refine Ent.cons (by exact rm) (Ent.cons (by exact rm) (Ent.cons (by exact rm) ?_))
      exact Ent.trans (H' := stars oM ms :: stars oM l :: .hb b4 28 [.slice none 0 0, .slice none 0 0, .slice none 0 0] :: H) (Ent.cons (by exact rm) (Ent.cons (by exact rm) (Ent.cons (by exact rm) (by exact ent)))) stars_app
  · refine sx ?_
    refine s_retcv rfl rfl rfl (by exact at_) rfl ⟨⟨k, ma, mc, ms⟩, true, rfl, fun d ms' g => ?_, hkI, by show sumM (ms.map Mg.d) ≤ xs.length; omega, rfl⟩ (Ent.tl (Ent.head (Ent.head (Ent.head (Ent.tl Ent.refl)))))
    obtain ⟨j, h1, h2⟩ := hinv d ms' g
    refine ⟨rfl, by rw [hkd]; exact (hK d ms' g).2.2.2.1, ?_⟩
    have hrs : rs = [] := List.eq_nil_of_length_eq_zero (by omega)
    rw [hrs] at h2
    have hj : ms'.length ≤ j := by
      refine Nat.le_of_not_lt fun hj => ?_
      obtain ⟨m, hm⟩ := get_lt ms' j hj
      have h3 := congrArg List.length h2
      rw [dropC hm, List.flatMap_cons, List.length_append, encM1_len] at h3
      have : lenM m = 13 + m.lo.length + m.hi.length + m.v.length := rfl
      simp only [List.length_nil] at h3
      omega
    rw [show (Nd.md ⟨k, ma, mc, ms⟩) = ms.map Mg.d from rfl, h1, List.take_of_length_le hj]
end Go.Sx
