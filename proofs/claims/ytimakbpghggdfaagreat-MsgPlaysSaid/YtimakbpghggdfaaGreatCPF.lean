/- Part of a proof: the book's round: all is written over, and made longer. -/
import Derived.Test.YtimakbpghggdfaaGreatCSWOj
import Derived.Test.YtimakbpghggdfaaGreatCKB
namespace Go.Sx
open Go Go.Proofs
set_option maxRecDepth 10000
section
variable {P : Program} {S : World → Prop} {l : List (Nat × Value)} {d : Option Tmp} {ty : TypeId} {pos : String} {af : Array Edge} {g : Option (Nat × Bool)}
theorem y_quov {x y : Operand} {T U : TypeId} {a c : Nat} (hx : ev l x = some (.int .i64 (a : Int))) (hy : ev l y = some (.int .i64 (c : Int))) (h : a ≤ 9223372036854775807 ∧ 1 ≤ c) :
    Y P S ⟨d, .binOp .quo T x y U, ty, pos, af, g⟩ l (.int .i64 ((a / c : Nat) : Int)) := .mk fun w _ ρ hρ => by
  have hne : ¬ c = 0 := by omega
  have hle := Nat.div_le_self a c
  have e : ((a / c : Nat) : Int) = (a : Int) / (c : Int) := rfl
  have this : IntKind.i64.wrap ((a : Int) / (c : Int)) = (a : Int) / (c : Int) := by
    rw [← e]
    generalize a / c = N at hle
    exact IntWalk.i64_in (N : Int) (by omega)
  simp [execOp, hρ _ _ hx, hρ _ _ hy, eqGuard_quo, binOp_quo, Op.intDiv, hne, this]
end
section
variable {α β : Type} [Cel α] [Row β α] {E : TypeId} {H R1 R2 R3 H' : List Ck} {F G : List β} {s : β}
theorem Ent.famK (h1 : Rm (Row.ck E s) H R1) (h2 : Rm (fam E F) R1 R2) (h : Ent R2 H') : Ent H (fam E (s :: F) :: H') :=
  ((Ent.perm h1.out).trans (Ent.head ((Ent.perm h2.out).trans (Ent.head h)))).trans fam_cons'
theorem Ent.famA (h1 : Rm (fam E F) H R1) (h2 : Rm (fam E G) R1 R2) (h : Ent R2 H') : Ent H (fam E (F ++ G) :: H') :=
  ((Ent.perm h1.out).trans (Ent.head ((Ent.perm h2.out).trans (Ent.head h)))).trans fam_app
theorem Ent.famKA (h1 : Rm (Row.ck E s) H R1) (h2 : Rm (fam E F) R1 R2) (h3 : Rm (fam E G) R2 R3) (h : Ent R3 H') : Ent H (fam E ((s :: F) ++ G) :: H') :=
  (((Ent.perm h1.out).trans (Ent.head ((Ent.perm h2.out).trans (Ent.head ((Ent.perm h3.out).trans (Ent.head h)))))).trans fam_cons').trans fam_app
end
variable {w0 : World} {H : List Ck}
/-- A list's mark. -/
def mkB (by' i : Nat) : UInt8 := UInt8.ofNat (1 + i / by' % 200)
theorem ofInt_natP (k : Nat) : UInt8.ofInt (k : Int) = UInt8.ofNat k := by
  apply UInt8.toNat_inj.1
  unfold UInt8.ofInt
  simp only [UInt8.toNat_ofNat']
  omega
theorem mkB_eq {by' i N : Nat} (h : i / by' = N) : bv (UInt8.ofInt (1 + (N : Int) % 200)) = bv (mkB by' i) := by
  have : (1 + (N : Int) % 200) = ((1 + N % 200 : Nat) : Int) := by omega
  rw [this, mkB, h, ofInt_natP]
theorem full_s {xs : Bs} {a : Option Addr} {c : Nat} {m : UInt8} (ha : RBy w0 H a c xs) (hm : ∀ x ∈ xs, x = m) : FnV Tryz.prog w0 H 133 #[.slice a xs.length c, bv m] (.bool true) := by
  refine fns_enter Tryz.func133 rfl rfl rfl ?_
  refine s_kn (Kn.by ha) fun l1 => ?_
  simp only [maxLen] at l1
  refine sx ?_
  refine s_loop (fun i : Nat => [(0, .slice a xs.length c), (1, bv m), (5, .int .i64 i)]) (fun _ => H) (fun i => i ≤ xs.length) (fun i => xs.length - i) 0 (Nat.zero_le _) ?_
  intro i hi
  refine sx ?_
  refine s_if rfl (fun t1 => ?_) (fun t1 => ?_)
  · obtain ⟨x, hx⟩ := get_lt xs i (by omega)
    have hxm := hm x (List.mem_of_getElem? hx)
    have hg : xs.getD i 0 = m := by rw [List.getD_eq_getElem?_getD, hx]; exact hxm
    refine sx ?_
    refine s_cF rfl (by simp only [hg]; simp) ?_
    refine sx ?_
    exact s_again (i + 1) (by omega) (by omega)
  · refine sx ?_
    exact s_ret1 rfl rfl ⟨rfl, rfl⟩
def mk1 (by' i : Nat) (s : SB) : SB := ⟨s.a, s.c, List.replicate s.xs.length (mkB by' i)⟩
def mks (by' : Nat) (ls : List SB) : List SB := ls.mapIdx (mk1 by')
theorem mks_len (by' : Nat) (ls : List SB) : (mks by' ls).length = ls.length := by simp [mks]
theorem mks_get {by' : Nat} {ls : List SB} {i : Nat} {s : SB} (h : ls[i]? = some s) : (mks by' ls)[i]? = some (mk1 by' i s) := by simp [mks, h]
theorem rep_all {m : UInt8} {n : Nat} {xs : Bs} (hn : xs.length = n) (h : ∀ j, j < n → xs[j]? = some m) : xs = List.replicate n m := by
  apply List.ext_getElem?
  intro j
  by_cases hj : j < n
  · rw [h j hj, List.getElem?_replicate, if_pos hj]
  · rw [List.getElem?_eq_none (by omega), List.getElem?_eq_none (by simp; omega)]
theorem fullV {D : List SB} {a : Option Addr} {c n : Nat} {m : UInt8} (h : Vw (· = m) D a c n) (e : Ent H (fam 5 D :: [])) : FnV Tryz.prog w0 H 133 #[.slice a n c, bv m] (.bool true) := by
  obtain ⟨ys, h1, h2, h3⟩ := h.by (E := 5)
  have hf := full_s (w0 := w0) (H := H) (RBy.ent (h3 w0 []) e) h2
  rwa [h1] at hf
theorem putM {m : UInt8} {xs ys : Bs} {p : Nat} (h : ∀ y ∈ xs, y = m) (h' : ∀ y ∈ ys, y = m) : ∀ y ∈ putL xs p ys, y = m := fun y hy => by
  rcases putL_mem hy with h1 | h1
  · exact h y h1
  · exact h' y h1
theorem tkM {m : UInt8} {xs ys : Bs} {p : Nat} (h : ∀ y ∈ xs, y = m) (h' : ∀ y ∈ ys, y = m) : ∀ y ∈ xs.take p ++ ys, y = m := fun y hy => by
  rcases List.mem_append.1 hy with h1 | h1
  · exact h y (List.mem_of_mem_take h1)
  · exact h' y h1
theorem vs_step {G : Nat → UInt8 → Prop} {vs D D' : List SB} {i : Nat} {u w : SB} (hvl : vs.length = 2 * i) (hv : ∀ j v, vs[j]? = some v → Vw (G (j / 2)) D v.a v.c v.xs.length) (hD : ∀ s, s ∈ D → s ∈ D')
    (hu : Vw (G i) D' u.a u.c u.xs.length) (hw : Vw (G i) D' w.a w.c w.xs.length) : ∀ j v, (vs ++ [u, w])[j]? = some v → Vw (G (j / 2)) D' v.a v.c v.xs.length := by
  intro j v hjv
  by_cases h : j < 2 * i
  · rw [List.getElem?_append_left (by omega)] at hjv
    exact (hv j v hjv).mono hD (fun _ h => h)
  · rw [List.getElem?_append_right (by omega)] at hjv
    rcases (show j - vs.length = 0 ∨ j - vs.length = 1 ∨ 2 ≤ j - vs.length by omega) with h0 | h0 | h0
    · rw [h0] at hjv
      cases hjv
      rw [show j / 2 = i by omega]
      exact hu
    · rw [h0] at hjv
      cases hjv
      rw [show j / 2 = i by omega]
      exact hw
    · rw [List.getElem?_eq_none (by simpa using h0)] at hjv
      cases hjv
theorem bs_step {G : Nat → UInt8 → Prop} {ls bs : List SB} {i : Nat} {b : SB} {sx0 : Bs} (hbl : bs.length = i) (hb : ∀ j s b, ls[j]? = some s → bs[j]? = some b → b.a = s.a ∧ b.c = s.c ∧ s.xs.length ≤ b.xs.length ∧ ∀ y ∈ b.xs, G j y)
    (hs : ls[i]? = some ⟨b.a, b.c, sx0⟩) (h1 : sx0.length ≤ b.xs.length) (h2 : ∀ y ∈ b.xs, G i y) : ∀ j s b', ls[j]? = some s → (bs ++ [b])[j]? = some b' → b'.a = s.a ∧ b'.c = s.c ∧ s.xs.length ≤ b'.xs.length ∧ ∀ y ∈ b'.xs, G j y := by
  intro j s b' hj hb'
  by_cases h : j < i
  · rw [List.getElem?_append_left (by omega)] at hb'
    exact hb j s b' hj hb'
  · have hlt := (List.getElem?_eq_some_iff.1 hb').1
    rw [List.length_append, List.length_singleton] at hlt
    obtain rfl : j = i := by omega
    rw [List.getElem?_append_right (by omega), hbl, Nat.sub_self] at hb'
    cases hb'
    rw [hs] at hj
    cases hj
    exact ⟨rfl, rfl, h1, h2⟩
/-- How far the second part has come. -/
structure Ro where
  i : Nat
  a : Option Addr
  c : Nat
  vs : List SB
  bs : List SB
  dn : List SB
/-- The blocks, each as long as its list. -/
def shr (ls bs : List SB) : List SB := List.zipWith (fun s b => ⟨b.a, b.c, b.xs.take s.xs.length⟩) ls bs
abbrev hd4 (s : SB) : Option Addr × Nat × Nat := (s.a, s.c, s.xs.length)
theorem shr_hd : ∀ {ls bs : List SB}, bs.length = ls.length → (∀ (j : Nat) (s b : SB), ls[j]? = some s → bs[j]? = some b → b.a = s.a ∧ b.c = s.c ∧ s.xs.length ≤ b.xs.length) → (shr ls bs).map hd4 = ls.map hd4
  | [], [], _, _ => rfl
  | s :: ls, b :: bs, hl, h => by
    obtain ⟨h1, h2, h3⟩ := h 0 s b rfl rfl
    have ih := shr_hd (ls := ls) (bs := bs) (by simpa using hl) (fun j s' b' g1 g2 => h (j + 1) s' b' (by simpa using g1) (by simpa using g2))
    have e : hd4 (⟨b.a, b.c, b.xs.take s.xs.length⟩ : SB) = hd4 s := by
      simp only [hd4, h1, h2, List.length_take, Nat.min_eq_left h3]
    show hd4 _ :: (shr ls bs).map hd4 = _
    rw [ih, e]
    rfl
theorem flat_hd : ∀ {ls ls' : List SB}, ls'.map hd4 = ls.map hd4 → ls'.length = ls.length ∧ flat ls' = flat ls
  | [], [], _ => ⟨rfl, rfl⟩
  | [], _ :: _, h => by simp at h
  | _ :: _, [], h => by simp at h
  | s :: ls, t :: ls', h => by
    simp only [List.map_cons, List.cons.injEq] at h
    obtain ⟨i1, i2⟩ := flat_hd h.2
    have h1 := h.1
    simp only [hd4, Prod.mk.injEq] at h1
    have e : t.val = s.val := by simp only [SB.val, h1.1, h1.2.1, h1.2.2]
    refine ⟨by simp [i1], ?_⟩
    show t.val :: flat ls' = s.val :: flat ls
    rw [i2, e]
theorem ol_hd {E : TypeId} {a : Option Addr} {c : Nat} {ls ls' : List SB} (h : ls'.map hd4 = ls.map hd4) : (ol E a c ls' : Ck) = ol E a c ls := by
  obtain ⟨h1, h2⟩ := flat_hd h
  show Ck.own _ _ _ _ _ _ = Ck.own _ _ _ _ _ _
  rw [h1, h2]
theorem fam_shr {E : TypeId} : ∀ {ls bs : List SB} {H : List Ck}, bs.length = ls.length → Ent (fam E bs :: H) (fam E (shr ls bs) :: H)
  | [], [], _, _ => Ent.refl
  | s :: ls, b :: bs, H, hl => by
    refine fam_cons.trans ?_
    refine Ent.trans ?_ (fam_cons' (s := (⟨b.a, b.c, b.xs.take s.xs.length⟩ : SB)))
    refine Ent.trans (H' := Row.ck E (⟨b.a, b.c, b.xs.take s.xs.length⟩ : SB) :: fam E bs :: H) Ent.shr ?_
    exact Ent.head (fam_shr (by simpa using hl))
set_option maxHeartbeats 4000000 in
theorem round_s {K by' lc : Nat} {v4 : Value} {sf : List Value} {la : Option Addr} {ls : List SB} (hby : 1 ≤ by' ∧ by' ≤ 200) (hl : ls.length ≤ 3000000000000) (hsm : ∀ s ∈ ls, s.xs.length ≤ 140737488355000) :
    FnS Tryz.prog w0 (.hb K 69 (.slice la ls.length lc :: v4 :: sf) :: ol 24 la lc ls :: fam 5 ls :: H) 101 #[.pointer (some ⟨K, 0, none⟩), .int .i64 by']
      (fun v H' => v = .bool true ∧ ∃ ls', ls'.map hd4 = ls.map hd4 ∧ H' = .hb K 69 (.slice la ls.length lc :: v4 :: sf) :: ol 24 la lc ls' :: fam 5 ls' :: H) := by
  refine fns_enter Tryz.func101 rfl rfl rfl ?_
  refine sx ?_
  refine s_loop (fun i : Nat => [(0, .pointer (some ⟨K, 0, none⟩)), (1, .int .i64 by'), (5, .int .i64 i)]) (fun i => .hb K 69 (.slice la ls.length lc :: v4 :: sf) :: ol 24 la lc ls :: fam 5 ((mks by' ls).take i) :: fam 5 (ls.drop i) :: H)
    (fun i => i ≤ ls.length) (fun i => ls.length - i) 0 (Nat.zero_le _) ?_ (he := by
      refine Ent.cons (by exact rm) ?_
      refine Ent.cons (by exact rm) ?_
      exact fam_nil)
  intro i hi
  refine sx ?_
  refine s_if rfl (fun t1 => ?_) (fun t1 => ?_)
  · obtain ⟨N, hN⟩ : ∃ N, i / by' = N := ⟨_, rfl⟩
    obtain ⟨⟨sa, sc, sx0⟩, hs⟩ := get_lt ls i (by omega)
    have hsz := hsm _ (List.mem_of_getElem? hs)
    have hmi := mks_get (by' := by') hs
    simp only at hsz
    refine s_ent (ob sa sc sx0 :: .hb K 69 (.slice la ls.length lc :: v4 :: sf) :: ol 24 la lc ls :: fam 5 ((mks by' ls).take i) :: fam 5 (ls.drop (i + 1)) :: H) (by
      rw [dropG hs]
      exact (Ent.famC (by exact rm)).trans (by exact ent)) ?_
    refine sx ?_
    refine s_loop (fun (j : Nat × Bs) => [(0, .pointer (some ⟨K, 0, none⟩)), (1, .int .i64 by'), (5, .int .i64 i), (6, .int .i64 j.1)]) (fun j => ob sa sc j.2 :: .hb K 69 (.slice la ls.length lc :: v4 :: sf) :: ol 24 la lc ls :: fam 5 ((mks by' ls).take i) :: fam 5 (ls.drop (i + 1)) :: H)
      (fun j => j.1 ≤ sx0.length ∧ j.2.length = sx0.length ∧ ∀ x, x < j.1 → j.2[x]? = some (mkB by' i)) (fun j => sx0.length - j.1) (0, sx0) ⟨Nat.zero_le _, rfl, fun x h => by omega⟩ ?_
    rintro ⟨j, ys⟩ ⟨hj, hyl, hys⟩
    simp only at hj hyl hys ⊢
    refine sx ?_
    refine s_if rfl (fun t2 => ?_) (fun t2 => ?_)
    · have t2 : (j : Int) < (sx0.length : Int) := t2
      refine s_kn (φ := ∃ ad, sa = some ad) (fun w hw => own_gA (Sat.ownOf (c' := ob sa sc ys) .hd hw) (by omega)) ?_
      rintro ⟨ad, rfl⟩
      refine sx ?_; refine s_drR (ob (some ad) sc ys) (by exact rm) (.one true 0 (.one true 1 (.one true 2 (.one true 3 (.one true 4 (.one true 5 (.one true 6 (.one true 7 (.one true 8 (.one true 9 (.one true 10 (.one true 11 (.one true 12 (.one true 13 (.one true 14 (.one false 15 .nil)))))))))))))))) mixed (by kernel_rfl) ?_; refine sx ?_
      refine sx ?_
      refine (s_gH (s_yH rfl rfl rfl (y_quov (a := i) (c := by') rfl rfl ⟨by omega, by omega⟩) ?_))
      rw [hN]
      refine sx ?_
      refine s_rw (t := 53) rfl (mkB_eq hN) ?_
      refine sx ?_
      refine s_set1 (i := j) (y := mkB by' i) rfl rfl (by exact at_) rfl (by omega) ?_
      refine sx ?_
      refine s_again (j + 1, ys.set j (mkB by' i)) ⟨by simp only; omega, by simp only [List.length_set]; exact hyl, fun x hx => ?_⟩ (by simp only; omega)
      simp only at hx ⊢
      by_cases h : x = j
      · subst h
        rw [List.getElem?_set_self (by omega)]
      · rw [List.getElem?_set_ne (by omega)]
        exact hys x (by omega)
    · have t2 : ¬ (j : Int) < (sx0.length : Int) := t2
      have hye := rep_all hyl (fun x hx => hys x (by omega))
      subst hye
      refine sx ?_
      refine s_again (i + 1) (by omega) (by omega) (he := ?_)
      rw [snocT hmi]
      refine Ent.cons (by exact rm) ?_
      refine Ent.cons (by exact rm) ?_
      refine Ent.famS (by exact rm) (by exact rm) ?_
      exact ent
  obtain rfl : i = ls.length := by omega
  rw [List.take_of_length_le (by rw [mks_len]; exact Nat.le_refl _)]
  refine sx ?_
  refine s_loop (fun (m : Ro) => [(0, .pointer (some ⟨K, 0, none⟩)), (1, .int .i64 by'), (7, .slice m.a m.vs.length m.c), (8, .int .i64 m.i)])
    (fun m => .hb K 69 (.slice la ls.length lc :: v4 :: sf) :: ol 24 la lc ls :: ol 24 m.a m.c m.vs :: fam 5 m.bs :: fam 5 m.dn :: fam 5 ((mks by' ls).drop m.i) :: H)
    (fun m => m.i ≤ ls.length ∧ m.vs.length = 2 * m.i ∧ m.bs.length = m.i ∧ (∀ j s b, ls[j]? = some s → m.bs[j]? = some b → b.a = s.a ∧ b.c = s.c ∧ s.xs.length ≤ b.xs.length ∧ ∀ y ∈ b.xs, y = mkB by' j) ∧ (∀ j v, m.vs[j]? = some v → Vw (· = mkB by' (j / 2)) (m.bs ++ m.dn) v.a v.c v.xs.length))
    (fun m => ls.length - m.i) ⟨0, none, 0, [], [], []⟩ ⟨Nat.zero_le _, rfl, rfl, fun j s b _ h => by simp at h, fun j v h => by simp at h⟩ ?_ (he := by
      refine Ent.cons (by exact rm) ?_
      refine Ent.cons (by exact rm) ?_
      refine Ent.trans ?_ Ent.nilS
      refine Ent.trans ?_ fam_nil
      refine Ent.trans ?_ fam_nil
      exact ent)
  rintro ⟨i, ga, gc, vs, bs, dn⟩ ⟨hi, hvl, hbl, hb1, hv1⟩
  simp only at hi hvl hbl hb1 hv1 ⊢
  refine sx ?_
  refine s_if rfl (fun t2 => ?_) (fun t2 => ?_)
  · obtain ⟨N, hN⟩ : ∃ N, i / by' = N := ⟨_, rfl⟩
    obtain ⟨⟨sa, sc, sx0⟩, hs⟩ := get_lt ls i (by omega)
    have hsz := hsm _ (List.mem_of_getElem? hs)
    have hmi := mks_get (by' := by') hs
    simp only at hsz
    refine s_ent (ob sa sc (List.replicate sx0.length (mkB by' i)) :: fam 5 ([] : List SB) :: .hb K 69 (.slice la ls.length lc :: v4 :: sf) :: ol 24 la lc ls :: ol 24 ga gc vs :: fam 5 bs :: fam 5 dn :: fam 5 ((mks by' ls).drop (i + 1)) :: H) (by
      rw [dropG hmi]
      refine (Ent.famC (by exact rm)).trans ?_
      refine Ent.cons (by exact rm) ?_
      exact Ent.trans (by exact ent) fam_nil) ?_
    refine sx ?_
    refine s_yS rfl rfl rfl (y_quov (a := i) (c := by') rfl rfl ⟨by omega, by omega⟩) ?_
    rw [hN]
    refine sx ?_
    refine s_rw (t := 9) rfl (mkB_eq hN) ?_
    refine sx ?_
    refine s_make (α := UInt8) (c := 70) rfl rfl ⟨by decide, by decide⟩ fun mk => ?_
    refine sx ?_
    refine s_loop (fun (j : Nat × Bs) => [(0, .pointer (some ⟨K, 0, none⟩)), (1, .int .i64 by'), (7, .slice ga vs.length gc), (8, .int .i64 i), (9, bv (mkB by' i)), (10, .slice sa sx0.length sc), (11, .slice (some mk) 70 70), (12, .int .i64 j.1)])
      (fun j => ob (some mk) 70 j.2 :: ob sa sc (List.replicate sx0.length (mkB by' i)) :: fam 5 ([] : List SB) :: .hb K 69 (.slice la ls.length lc :: v4 :: sf) :: ol 24 la lc ls :: ol 24 ga gc vs :: fam 5 bs :: fam 5 dn :: fam 5 ((mks by' ls).drop (i + 1)) :: H)
      (fun j => j.1 ≤ 70 ∧ j.2.length = 70 ∧ ∀ x, x < j.1 → j.2[x]? = some (mkB by' i)) (fun j => 70 - j.1) (0, List.replicate 70 0) ⟨Nat.zero_le _, by simp, fun x h => by omega⟩ ?_
    rintro ⟨j, ys⟩ ⟨hj, hyl, hys⟩
    simp only at hj hyl hys ⊢
    refine sx ?_
    refine s_if rfl (fun t3 => ?_) (fun t3 => ?_)
    · have t3 : (j : Int) < 70 := t3
      refine sx ?_
      refine s_set1 (i := j) (y := mkB by' i) rfl rfl (by exact at_) rfl (by omega) ?_
      refine sx ?_
      refine s_again (j + 1, ys.set j (mkB by' i)) ⟨by simp only; omega, by simp only [List.length_set]; exact hyl, fun x hx => ?_⟩ (by simp only; omega)
      simp only at hx ⊢
      by_cases h : x = j
      · subst h
        rw [List.getElem?_set_self (by omega)]
      · rw [List.getElem?_set_ne (by omega)]
        exact hys x (by omega)
    have t3 : ¬ (j : Int) < 70 := t3
    have hye := rep_all hyl (fun x hx => hys x (by omega))
    have hmm : ∀ y ∈ ys, y = mkB by' i := fun y hy => by rw [hye] at hy; exact List.eq_of_mem_replicate hy
    clear hys hye
    refine sx ?_
    refine s_loop (fun (j : Nat × SB × List SB × Bs) => [(0, .pointer (some ⟨K, 0, none⟩)), (1, .int .i64 by'), (7, .slice ga vs.length gc), (8, .int .i64 i), (9, bv (mkB by' i)), (10, .slice j.2.1.a j.2.2.2.length j.2.1.c), (11, .slice (some mk) 70 70), (13, .int .i64 j.1)])
      (fun j => ob j.2.1.a j.2.1.c j.2.1.xs :: fam 5 j.2.2.1 :: ob (some mk) 70 ys :: .hb K 69 (.slice la ls.length lc :: v4 :: sf) :: ol 24 la lc ls :: ol 24 ga gc vs :: fam 5 bs :: fam 5 dn :: fam 5 ((mks by' ls).drop (i + 1)) :: H)
      (fun j => j.1 ≤ 20 ∧ j.2.2.2.length = sx0.length + j.1 ∧ j.2.2.2.length ≤ j.2.1.xs.length ∧ (∀ y ∈ j.2.1.xs, y = mkB by' i) ∧ Vw (· = mkB by' i) (j.2.1 :: j.2.2.1) sa sc sx0.length) (fun j => 20 - j.1)
      (0, ⟨sa, sc, List.replicate sx0.length (mkB by' i)⟩, [], sx0) ⟨Nat.zero_le _, rfl, by simp, fun y hy => List.eq_of_mem_replicate hy, ⟨_, List.mem_cons_self .., rfl, rfl, by simp [Row.xs], fun y hy => List.eq_of_mem_replicate hy⟩⟩ ?_
    rintro ⟨k, x, tl, nv⟩ ⟨hk, hnl, hnx, hxm, hbv⟩
    simp only at hk hnl hnx hxm hbv ⊢
    refine sx ?_
    have hon : ∀ y ∈ [mkB by' i], y = mkB by' i := fun y hy => List.mem_singleton.1 hy
    refine s_if rfl (fun t4 => ?_) (fun t4 => ?_)
    · have t4 : (k : Int) < 20 := t4
      refine sx ?_
      refine s_bsl [mkB by' i] rfl rfl fun b9 => ?_
      refine s_appP (xs := x.xs) (p := nv.length) (ys := [mkB by' i]) ?_ ?_
      · intro hc
        have hpl := putL_len (ys := [mkB by' i]) hnx
        refine sx ?_
        refine s_again (k + 1, ⟨x.a, x.c, putL x.xs nv.length [mkB by' i]⟩, tl, mkB by' i :: nv) ⟨by simp only; omega, by simp only [List.length_cons]; omega, by simp only [List.length_cons]; rw [hpl]; simp only [List.length_cons, List.length_nil]; omega, putM hxm hon, ?_⟩ (by simp only; omega)
        exact hbv.put rfl rfl (by simp only [Row.xs]; omega) (putM hxm hon)
      · intro a' c'
        refine sx ?_
        refine s_again (k + 1, ⟨a', c', x.xs.take nv.length ++ [mkB by' i]⟩, x :: tl, mkB by' i :: nv) ⟨by simp only; omega, by simp only [List.length_cons]; omega, by simp only [List.length_cons, List.length_append, List.length_take, List.length_nil]; omega, tkM hxm hon, ?_⟩ (by simp only; omega) (he := ?_)
        · exact hbv.mono (fun s h => List.mem_cons_of_mem _ h) (fun _ h => h)
        · refine Ent.cons (by exact rm) ?_
          refine Ent.famK (by exact rm) (by exact rm) ?_
          exact ent
    obtain ⟨b, hbm, rfl, rfl, hbl2, hball⟩ := hbv
    have hbl2 : sx0.length ≤ b.xs.length := hbl2
    have hball : ∀ y ∈ b.xs, y = mkB by' i := hball
    obtain ⟨qn, hq⟩ := List.mem_iff_getElem?.1 hbm
    have hpm := perm_erase hq
    have hgv : Vw (· = mkB by' i) (b :: (x :: tl).eraseIdx qn) x.a x.c nv.length := ⟨x, (hpm.mem_iff (a := x)).1 (List.mem_cons_self ..), rfl, rfl, hnx, hxm⟩
    generalize (x :: tl).eraseIdx qn = tl2 at hpm hgv
    refine s_ent (ob b.a b.c b.xs :: fam 5 tl2 :: ob (some mk) 70 ys :: .hb K 69 (.slice la ls.length lc :: v4 :: sf) :: ol 24 la lc ls :: ol 24 ga gc vs :: fam 5 bs :: fam 5 dn :: fam 5 ((mks by' ls).drop (i + 1)) :: H) (by
      refine Ent.trans (H' := ob x.a x.c x.xs :: fam 5 tl :: _) (by exact Ent.refl) ?_
      exact (fam_cons' (s := x)).trans ((fam_perm hpm).trans fam_cons)) ?_
    have hs' : ls[i]? = some ⟨b.a, b.c, sx0⟩ := hs
    clear hs
    refine sx ?_
    refine s_appP (xs := b.xs) (p := sx0.length) (ys := ys) ?_ ?_
    · intro hc
      have hpl := putL_len (ys := ys) hbl2
      refine s_rw (t := 104) (v' := .slice b.a (sx0 ++ ys).length b.c) rfl (by rw [List.length_append]) ?_
      refine s_bsl [(⟨x.a, x.c, nv⟩ : SB), ⟨b.a, b.c, sx0 ++ ys⟩] rfl rfl fun b9 => ?_
      refine s_appW ?_
      intro ga2 gc2
      refine sx ?_
      refine s_again ⟨i + 1, ga2, gc2, vs ++ [(⟨x.a, x.c, nv⟩ : SB), ⟨b.a, b.c, sx0 ++ ys⟩], bs ++ [⟨b.a, b.c, putL b.xs sx0.length ys⟩], tl2 ++ dn⟩ ⟨by simp only; omega, by simp only [List.length_append, List.length_cons, List.length_nil]; omega, by simp only [List.length_append, List.length_cons, List.length_nil]; omega, ?_, ?_⟩ (by simp only; omega) (he := ?_)
      · exact bs_step (G := fun j y => y = mkB by' j) hbl hb1 hs' (by simp only; omega) (putM hball hmm)
      · have hp := hgv.put (y := (⟨b.a, b.c, putL b.xs sx0.length ys⟩ : SB)) rfl rfl (by simp only [Row.xs]; omega) (putM hball hmm)
        have hm : ∀ s : SB, s ∈ (⟨b.a, b.c, putL b.xs sx0.length ys⟩ : SB) :: tl2 → s ∈ (bs ++ [(⟨b.a, b.c, putL b.xs sx0.length ys⟩ : SB)]) ++ (tl2 ++ dn) := fun s h => by
          rcases List.mem_cons.1 h with rfl | h
          · simp
          · simp [h]
        refine vs_step (G := fun j y => y = mkB by' j) hvl hv1 (fun s h => ?_) (hp.mono hm fun _ h => h) ?_
        · rcases List.mem_append.1 h with h | h <;> simp [h]
        · exact Vw.mono (p := (· = mkB by' i)) (D := [(⟨b.a, b.c, putL b.xs sx0.length ys⟩ : SB)]) ⟨_, List.mem_singleton.2 rfl, rfl, rfl, by simp only [Row.xs, List.length_append]; omega, putM hball hmm⟩ (fun s h => by rw [List.mem_singleton.1 h]; simp) (fun _ h => h)
      · refine Ent.cons (by exact rm) ?_
        refine Ent.cons (by exact rm) ?_
        refine Ent.cons (by exact rm) ?_
        refine Ent.famS (by exact rm) (by exact rm) ?_
        refine Ent.famA (by exact rm) (by exact rm) ?_
        exact ent
    · intro a' c'
      refine s_rw (t := 104) (v' := .slice a' (sx0 ++ ys).length c') rfl (by rw [List.length_append]) ?_
      refine s_bsl [(⟨x.a, x.c, nv⟩ : SB), ⟨a', c', sx0 ++ ys⟩] rfl rfl fun b9 => ?_
      refine s_appW ?_
      intro ga2 gc2
      refine sx ?_
      refine s_again ⟨i + 1, ga2, gc2, vs ++ [(⟨x.a, x.c, nv⟩ : SB), ⟨a', c', sx0 ++ ys⟩], bs ++ [b], (⟨a', c', b.xs.take sx0.length ++ ys⟩ : SB) :: tl2 ++ dn⟩ ⟨by simp only; omega, by simp only [List.length_append, List.length_cons, List.length_nil]; omega, by simp only [List.length_append, List.length_cons, List.length_nil]; omega, ?_, ?_⟩ (by simp only; omega) (he := ?_)
      · exact bs_step (G := fun j y => y = mkB by' j) hbl hb1 hs' hbl2 hball
      · have hm : ∀ s : SB, s ∈ b :: tl2 → s ∈ (bs ++ [b]) ++ ((⟨a', c', b.xs.take sx0.length ++ ys⟩ : SB) :: tl2 ++ dn) := fun s h => by
          rcases List.mem_cons.1 h with rfl | h
          · simp
          · simp [h]
        refine vs_step (G := fun j y => y = mkB by' j) hvl hv1 (fun s h => ?_) (hgv.mono hm fun _ h => h) ?_
        · rcases List.mem_append.1 h with h | h <;> simp [h]
        · exact Vw.mono (p := (· = mkB by' i)) (D := [(⟨a', c', b.xs.take sx0.length ++ ys⟩ : SB)]) ⟨_, List.mem_singleton.2 rfl, rfl, rfl, by simp only [Row.xs, List.length_append, List.length_take]; omega, tkM hball hmm⟩ (fun s h => by rw [List.mem_singleton.1 h]; simp) (fun _ h => h)
      · refine Ent.cons (by exact rm) ?_
        refine Ent.cons (by exact rm) ?_
        refine Ent.cons (by exact rm) ?_
        refine Ent.famS (s := b) (by exact rm) (by exact rm) ?_
        refine Ent.famKA (by exact rm) (by exact rm) (by exact rm) ?_
        exact ent
  obtain rfl : i = ls.length := by omega
  clear hi t2
  refine sx ?_
  refine s_loop (fun i : Nat => [(0, .pointer (some ⟨K, 0, none⟩)), (1, .int .i64 by'), (7, .slice ga vs.length gc), (14, .int .i64 i)]) (fun _ => .hb K 69 (.slice la ls.length lc :: v4 :: sf) :: ol 24 la lc ls :: ol 24 ga gc vs :: fam 5 bs :: fam 5 dn :: H)
    (fun i => i ≤ ls.length) (fun i => ls.length - i) 0 (Nat.zero_le _) ?_
  intro i hi
  refine sx ?_
  refine s_if rfl (fun t3 => ?_) (fun t3 => ?_)
  · obtain ⟨N, hN⟩ : ∃ N, i / by' = N := ⟨_, rfl⟩
    obtain ⟨s, hs⟩ := get_lt ls i (by omega)
    obtain ⟨b, hb⟩ := get_lt bs i (by omega)
    obtain ⟨g, hg⟩ := get_lt vs (2 * i) (by omega)
    obtain ⟨h, hh⟩ := get_lt vs (2 * i + 1) (by omega)
    have w1 : Vw (· = mkB by' i) bs s.a s.c s.xs.length := by
      obtain ⟨e1, e2, e3, e4⟩ := hb1 i s b hs hb
      exact ⟨b, List.mem_of_getElem? hb, e1, e2, e3, e4⟩
    have f1 : FnV Tryz.prog w0 (.hb K 69 (.slice la ls.length lc :: v4 :: sf) :: ol 24 la lc ls :: ol 24 ga gc vs :: fam 5 bs :: fam 5 dn :: H) 133 #[.slice s.a s.xs.length s.c, bv (mkB by' i)] (.bool true) := fullV w1 (by exact ent)
    have f2 : FnV Tryz.prog w0 (.hb K 69 (.slice la ls.length lc :: v4 :: sf) :: ol 24 la lc ls :: ol 24 ga gc vs :: fam 5 bs :: fam 5 dn :: H) 133 #[.slice g.a g.xs.length g.c, bv (mkB by' i)] (.bool true) := by
      have := hv1 _ g hg
      rw [show 2 * i / 2 = i by omega] at this
      exact fullV this (Ent.famA (by exact rm) (by exact rm) Ent.nil)
    have f3 : FnV Tryz.prog w0 (.hb K 69 (.slice la ls.length lc :: v4 :: sf) :: ol 24 la lc ls :: ol 24 ga gc vs :: fam 5 bs :: fam 5 dn :: H) 133 #[.slice h.a h.xs.length h.c, bv (mkB by' i)] (.bool true) := by
      have := hv1 _ h hh
      rw [show (2 * i + 1) / 2 = i by omega] at this
      exact fullV this (Ent.famA (by exact rm) (by exact rm) Ent.nil)
    refine sx ?_
    refine s_yS rfl rfl rfl (y_quov (a := i) (c := by') rfl rfl ⟨by omega, by omega⟩) ?_
    rw [hN]
    refine sx ?_
    refine s_rw (t := 15) rfl (mkB_eq hN) ?_
    refine sx ?_
    refine s_rw (t := 129) rfl (mkB_eq hN) ?_
    refine s_callV rfl f1 ?_
    refine sx ?_
    refine s_rw (t := 133) rfl (ci (by omega : _ = ((2 * i : Nat) : Int))) ?_
    refine sx ?_
    refine s_callV rfl f2 ?_
    refine sx ?_
    refine s_rw (t := 141) rfl (ci (by omega : _ = ((2 * i + 1 : Nat) : Int))) ?_
    refine sx ?_
    refine s_callV rfl f3 ?_
    refine sx ?_
    exact s_again (i + 1) (by omega) (by omega)
  refine sx ?_
  refine s_ret1 rfl rfl ⟨rfl, shr ls bs, ?_, rfl⟩ ?_
  · exact shr_hd hbl fun j s b h1 h2 => ⟨(hb1 j s b h1 h2).1, (hb1 j s b h1 h2).2.1, (hb1 j s b h1 h2).2.2.1⟩
  · rw [ol_hd (shr_hd hbl fun j s b h1 h2 => ⟨(hb1 j s b h1 h2).1, (hb1 j s b h1 h2).2.1, (hb1 j s b h1 h2).2.2.1⟩)]
    refine Ent.head (Ent.head (Ent.tl ?_))
    refine (fam_shr hbl).trans ?_
    exact Ent.head (Ent.tl Ent.refl)
end Go.Sx

