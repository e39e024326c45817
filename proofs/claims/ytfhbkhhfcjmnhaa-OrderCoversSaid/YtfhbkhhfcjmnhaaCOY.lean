/- Part of a proof: the lot's end: what came out is as it must be; its lists are written over and made longer. -/
import Derived.Test.YtfhbkhhfcjmnhaaCOX
namespace Go.Sx
open Go Go.Proofs
set_option maxRecDepth 10000
variable {w0 : World} {H : List Ck}
/-- The mark of a list. -/
def mB (i : Nat) : UInt8 := UInt8.ofInt (i : Int)
/-- A range whose first key is one mark, in one of these blocks. -/
def Gk (bs : List SB) (m : UInt8) (y : Rg) : Prop := y.lo = [m] ∧ (⟨y.la, y.lc, y.lo⟩ : SB) ∈ bs
theorem Gk.mono {bs bs' : List SB} {m : UInt8} {y : Rg} (h : Gk bs m y) (hb : ∀ s, s ∈ bs → s ∈ bs') : Gk bs' m y := ⟨h.1, hb _ h.2⟩
abbrev mkK (b : Nat) (m : UInt8) : SB := ⟨some ⟨b, 0, none⟩, 1, [m]⟩
abbrev mkR (b : Nat) (m : UInt8) : Rg := ⟨some ⟨b, 0, none⟩, 1, [m], none, 0, [], false⟩
theorem mkK_good {bs : List SB} {b : Nat} {m : UInt8} : Gk (bs ++ [mkK b m]) m (mkR b m) := ⟨rfl, List.mem_append_right _ (List.mem_singleton.2 rfl)⟩
def DnK (is : List SRg) (i : Nat) (dn : List SRg) (bs : List SB) : Prop := dn.length = i ∧ ∀ j s, j < i → is[j]? = some s → ∃ d, dn[j]? = some d ∧ d.a = s.a ∧ d.c = s.c ∧ d.xs.length = s.xs.length ∧ ∀ y ∈ d.xs, Gk bs (mB j) y
theorem DnK.mono {is dn : List SRg} {i : Nat} {bs bs' : List SB} (h : DnK is i dn bs) (hb : ∀ s, s ∈ bs → s ∈ bs') : DnK is i dn bs' :=
  ⟨h.1, fun j s hj hs => (h.2 j s hj hs).imp fun _ ⟨h1, h2, h3, h4, h5⟩ => ⟨h1, h2, h3, h4, fun y hy => (h5 y hy).mono hb⟩⟩
theorem all_get {α : Type} {p : α → Prop} {l : List α} (h : ∀ x, x < l.length → ∃ y, l[x]? = some y ∧ p y) : ∀ y ∈ l, p y := fun y hy => by
  obtain ⟨i, hi⟩ := List.getElem?_of_mem hy
  obtain ⟨z, h1, h2⟩ := h i (List.getElem?_eq_some_iff.1 hi).1
  rw [hi] at h1
  cases h1
  exact h2
/-- The same as in the node's book, for ranges. -/
theorem putG {α : Type} {p : α → Prop} {xs : List α} {i : Nat} {e : α} (h : ∀ y ∈ xs, p y) (he : p e) : ∀ y ∈ putL xs i [e], p y := fun y hy => by
  have := hy
  simp only [putL, List.mem_append, List.mem_singleton] at this
  rcases this with (h1 | h1) | h1
  · exact h y (List.mem_of_mem_take h1)
  · rw [h1]; exact he
  · exact h y (List.mem_of_mem_drop h1)
theorem tkG {α : Type} {p : α → Prop} {xs : List α} {i : Nat} {e : α} (h : ∀ y ∈ xs, p y) (he : p e) : ∀ y ∈ xs.take i ++ [e], p y := fun y hy => by
  rcases List.mem_append.1 hy with h1 | h1
  · exact h y (List.mem_of_mem_take h1)
  · rw [List.mem_singleton.1 h1]; exact he
theorem drop_get {α : Type} {l : List α} {i : Nat} {x : α} (h : l[i]? = some x) : l.drop i = x :: l.drop (i + 1) := dropG h
theorem mB_half (i : Nat) : UInt8.ofInt ((i : Int) / 2) = mB (i / 2) := by unfold mB; rw [Int.natCast_ediv]; rfl
set_option maxHeartbeats 4000000 in
theorem lends_s {B : Ob} {R : LL} {cnt n m : Nat} (hR : R.Ok B w0 n m) (hB : B.Ok cnt) (hn : n ≤ 1000) (hm2 : m ≤ 4294967296) (hc : cnt ≤ 1099511627776) :
    FnS Try.prog w0 (R.ps ++ (B.ck :: H)) 18 #[.pointer (some ⟨B.k, 0, none⟩)] (fun v H' => v = .bool true ∧ H' = H) := by
  have hfew := hR.few
  have hrl := hR.len
  have hsm : ∀ f ∈ R.rs, f.xs.length ≤ 4294967296 := fun f hf => Nat.le_trans (hR.each f hf) hm2
  refine fns_enter Try.func18 rfl rfl rfl ?_
  refine s_ent (B.ck :: .star R.X :: ol 23 R.ra R.rc R.rs :: ol 23 R.wa R.wc R.ws :: fam 26 R.rs :: H) (by
    show Ent (ol 23 R.ra R.rc R.rs :: ol 23 R.wa R.wc R.ws :: fam 26 R.rs :: .star R.X :: B.ck :: H) _
    exact entq) ?_
  have rx : ∀ s ∈ R.rs, ∀ r ∈ s.xs, RRg w0 (B.ck :: .star R.X :: ol 23 R.ra R.rc R.rs :: ol 23 R.wa R.wc R.ws :: fam 26 R.rs :: H) r := fun s hs r hr => ⟨ob_by (hR.bys s hs r hr).1, ob_by (hR.bys s hs r hr).2⟩
  have rf : ∀ s ∈ R.rs, RSl w0 (B.ck :: .star R.X :: ol 23 R.ra R.rc R.rs :: ol 23 R.wa R.wc R.ws :: fam 26 R.rs :: H) s.a s.c s.xs := fun s hs => (fam_sl hs).tl.tl.tl.tl
  have rw1 : ∀ t ∈ R.ws, RSl w0 (B.ck :: .star R.X :: ol 23 R.ra R.rc R.rs :: ol 23 R.wa R.wc R.ws :: fam 26 R.rs :: H) t.a t.c t.xs := fun t ht => (hR.wsl t ht _).tl
  have rw2 : ∀ t ∈ R.ws, ∀ r ∈ t.xs, RRg w0 (B.ck :: .star R.X :: ol 23 R.ra R.rc R.rs :: ol 23 R.wa R.wc R.ws :: fam 26 R.rs :: H) r := fun t ht r hr => (hR.wby t ht r hr _).tl
  have hbs := hB.same
  have hbl := hB.len
  have hbm := hB.small
  have hsame := hR.same
  have hp := hR.p
  have hq := hR.q
  clear hR hB
  obtain ⟨K, p, q, la, lc, ls, va, vc, vs⟩ := B
  obtain ⟨ia, ic, is, wa, wc, ws, X⟩ := R
  simp only at hfew hrl hsm rx rf rw1 rw2 hbs hbl hbm hsame hp hq ⊢
  subst hp
  subst hq
  have hE : Ent (.hb K 34 [.slice ia is.length ic, .slice wa ws.length wc, .slice la ls.length lc, .slice va vs.length vc] :: ol 24 la lc ls :: ol 9 va vc vs :: fam 5 ls :: .star X :: ol 23 ia ic is :: ol 23 wa wc ws :: fam 26 is :: H) (Ob.ck ⟨K, .slice ia is.length ic, .slice wa ws.length wc, la, lc, ls, va, vc, vs⟩ :: .star X :: ol 23 ia ic is :: ol 23 wa wc ws :: fam 26 is :: H) := Ob.shut (B := ⟨K, .slice ia is.length ic, .slice wa ws.length wc, la, lc, ls, va, vc, vs⟩)
  have rx := fun s hs r hr => RRg.ent (rx s hs r hr) hE
  have rf := fun s hs => RSl.ent (rf s hs) hE
  have rw1 := fun t ht => RSl.ent (rw1 t ht) hE
  have rw2 := fun t ht r hr => RRg.ent (rw2 t ht r hr) hE
  refine s_ent (.hb K 34 [.slice ia is.length ic, .slice wa ws.length wc, .slice la ls.length lc, .slice va vs.length vc] :: ol 24 la lc ls :: ol 9 va vc vs :: fam 5 ls :: .star X :: ol 23 ia ic is :: ol 23 wa wc ws :: fam 26 is :: H) (Ob.open (B := ⟨K, .slice ia is.length ic, .slice wa ws.length wc, la, lc, ls, va, vc, vs⟩)) ?_
  clear hE
  refine sx ?_
  refine s_loop (fun i : Nat => [(0, .pointer (some ⟨K, 0, none⟩)), (3, .int .i64 i)]) (fun _ => .hb K 34 [.slice ia is.length ic, .slice wa ws.length wc, .slice la ls.length lc, .slice va vs.length vc] :: ol 24 la lc ls :: ol 9 va vc vs :: fam 5 ls :: .star X :: ol 23 ia ic is :: ol 23 wa wc ws :: fam 26 is :: H) (fun i => i ≤ is.length) (fun i => is.length - i) 0 (Nat.zero_le _) ?_
  intro i hi
  refine sx ?_
  refine s_if rfl (fun t1 => ?_) (fun t1 => ?_)
  · obtain ⟨s, hs⟩ := get_lt is i (by omega)
    obtain ⟨t, ht⟩ := get_lt ws i (by omega)
    have hd := hsame i s t hs ht
    have m1 := List.mem_of_getElem? hs
    have m2 := List.mem_of_getElem? ht
    refine sx ?_; refine s_dr (.one true 0 (.one true 1 (.one true 2 (.one true 3 (.one true 4 (.one true 5 (.one true 6 (.one true 7 (.one true 8 (.one true 9 (.one true 10 (.one true 11 (.one true 12 (.one true 13 (.one false 14 (.one true 15 .nil)))))))))))))))) mixed (by kernel_rfl) ?_; refine sx ?_
    refine s_callV rfl (lsames_s (xs := s.xs) (ys := t.xs) (rf s m1) (rw1 t m2) (rx s m1) (rw2 t m2)) ?_
    rw [decide_eq_true hd]
    refine sx ?_
    exact s_again (i + 1) (by omega) (by omega)
  clear t1 hi rx rf rw1 rw2 hsame
  refine s_ent (.hb K 34 [.slice ia is.length ic, .slice wa ws.length wc, .slice la ls.length lc, .slice va vs.length vc] :: ol 24 la lc ls :: fam 5 ls :: ol 9 va vc vs :: ol 23 ia ic is :: fam 26 is :: H) (by exact entq) ?_
  refine sx ?_
  refine s_call rfl (bends_s (p := .slice ia is.length ic) (q := .slice wa ws.length wc) (Nat.le_trans hbl hc) hbm hbs) ?_
  rintro _ _ ⟨rfl, rfl⟩
  refine ⟨chk_seq, ?_⟩
  obtain ⟨c1, e1⟩ : ∃ c1 : Value, c1 = .slice wa ws.length wc := ⟨_, rfl⟩
  obtain ⟨c2, e2⟩ : ∃ c2 : Value, c2 = .slice la ls.length lc := ⟨_, rfl⟩
  obtain ⟨c3, e3⟩ : ∃ c3 : Value, c3 = .slice va vs.length vc := ⟨_, rfl⟩
  rw [← e1, ← e2, ← e3]
  clear e1 e2 e3 hbs hbl hbm hrl
  have hn : is.length ≤ 1099511627776 := by omega
  have hsmall := hsm
  refine sx ?_
  refine s_loop (fun i : Nat × List SRg × List SB => [(0, .pointer (some ⟨K, 0, none⟩)), (6, .int .i64 i.1)]) (fun i => .hb K 34 [.slice ia is.length ic, c1, c2, c3] :: ol 23 ia ic is :: fam 26 i.2.1 :: fam 26 (is.drop i.1) :: fam 5 i.2.2 :: H)
    (fun i => i.1 ≤ is.length ∧ DnK is i.1 i.2.1 i.2.2) (fun i => is.length - i.1) (0, [], []) ⟨Nat.zero_le _, rfl, fun j s h => by omega⟩ ?_ (he := by
      refine Ent.cons (by exact rm) ?_
      refine Ent.cons (by exact rm) ?_
      refine Ent.trans ?_ fam_nil
      refine Ent.cons (by exact rm) ?_
      exact fam_nil)
  rintro ⟨i, dn, bs⟩ ⟨hi, hdn⟩
  simp only at hi hdn ⊢
  refine sx ?_
  refine s_if rfl (fun t1 => ?_) (fun t1 => ?_)
  · obtain ⟨⟨sa, sc, sx0⟩, hs⟩ := get_lt is i (by omega)
    have hsz := hsmall _ (List.mem_of_getElem? hs)
    simp only at hsz
    refine s_ent (ol 26 sa sc sx0 :: .hb K 34 [.slice ia is.length ic, c1, c2, c3] :: ol 23 ia ic is :: fam 26 dn :: fam 26 (is.drop (i + 1)) :: fam 5 bs :: H) (by
      rw [drop_get hs]
      exact (Ent.famC (by exact rm)).trans (by exact ent)) ?_
    refine sx ?_
    refine s_loop (fun (j : Nat × List Rg × List SB) => [(0, .pointer (some ⟨K, 0, none⟩)), (6, .int .i64 i), (7, .int .i64 j.1)]) (fun j => ol 26 sa sc j.2.1 :: .hb K 34 [.slice ia is.length ic, c1, c2, c3] :: ol 23 ia ic is :: fam 26 dn :: fam 26 (is.drop (i + 1)) :: fam 5 j.2.2 :: H)
      (fun j => j.1 ≤ sx0.length ∧ j.2.1.length = sx0.length ∧ (∀ x, x < j.1 → ∃ y, j.2.1[x]? = some y ∧ Gk j.2.2 (mB i) y) ∧ (∀ s, s ∈ bs → s ∈ j.2.2)) (fun j => sx0.length - j.1) (0, sx0, bs) ⟨Nat.zero_le _, rfl, fun x h => by omega, fun _ h => h⟩ ?_
    rintro ⟨j, ys, bs2⟩ ⟨hj, hyl, hys, hbb⟩
    simp only at hj hyl hys hbb ⊢
    refine sx ?_
    refine s_if rfl (fun t2 => ?_) (fun t2 => ?_)
    · have t2 : (j : Int) < (sx0.length : Int) := t2
      refine s_kn (φ := ∃ ad, sa = some ad) (fun w hw => own_gA (Sat.ownOf (c' := ol 26 sa sc ys) .hd hw) (by omega)) ?_
      rintro ⟨ad, rfl⟩
      refine sx ?_
      refine s_bsl ([mB i] : Bs) rfl rfl fun b42 => ?_
      refine sx ?_
      refine s_setA (i := j) (y := mkR b42 (mB i)) rfl rfl (by exact at_) rfl (by omega) ?_
      refine sx ?_
      refine s_again (j + 1, ys.set j (mkR b42 (mB i)), bs2 ++ [mkK b42 (mB i)]) ⟨by simp only; omega, by simp only [List.length_set]; exact hyl, fun x hx => ?_, fun s hs => List.mem_append_left _ (hbb s hs)⟩ (by simp only; omega) (he := ?_)
      · simp only at hx ⊢
        by_cases h : x = j
        · subst h
          exact ⟨_, List.getElem?_set_self (by omega), mkK_good⟩
        · obtain ⟨y, h1, h2⟩ := hys x (by omega)
          exact ⟨y, by rw [List.getElem?_set_ne (by omega)]; exact h1, h2.mono fun s hs => List.mem_append_left _ hs⟩
      · refine Ent.cons (by exact rm) (Ent.cons (by exact rm) (Ent.cons (by exact rm) (Ent.cons (by exact rm) (Ent.cons (by exact rm) ?_))))
        refine Ent.famS (s := mkK b42 (mB i)) (by exact rm) (by exact rm) ?_
        exact ent
    · have t2 : ¬ (j : Int) < (sx0.length : Int) := t2
      have hya := all_get (l := ys) (fun x hx => hys x (by omega))
      refine sx ?_
      refine s_again (i + 1, dn ++ [(⟨sa, sc, ys⟩ : SRg)], bs2) ⟨by simp only; omega, by simp only [List.length_append, List.length_cons, List.length_nil, hdn.1], fun k s hk hks => ?_⟩ (by simp only; omega) (he := ?_)
      · simp only at hk ⊢
        by_cases h : k < i
        · obtain ⟨d, d1, d2, d3, d4, d5⟩ := hdn.2 k s h hks
          exact ⟨d, by rw [List.getElem?_append_left (by rw [hdn.1]; exact h)]; exact d1, d2, d3, d4, fun y hy => (d5 y hy).mono hbb⟩
        · obtain rfl : k = i := by omega
          rw [hs] at hks
          cases hks
          refine ⟨⟨sa, sc, ys⟩, by rw [List.getElem?_append_right (by rw [hdn.1]; exact Nat.le_refl _), hdn.1, Nat.sub_self]; rfl, rfl, rfl, hyl, hya⟩
      · refine Ent.cons (by exact rm) ?_
        refine Ent.cons (by exact rm) ?_
        refine Ent.famS (by exact rm) (by exact rm) ?_
        exact ent
  obtain rfl : i = is.length := by omega
  obtain ⟨hdl, hdg⟩ := hdn
  refine sx ?_
  refine s_loop (fun (i : Nat × Option Addr × Nat × List SRg × List SRg × List SB) => [(0, .pointer (some ⟨K, 0, none⟩)), (8, .slice i.2.1 i.2.2.2.1.length i.2.2.1), (9, .int .i64 i.1)])
    (fun i => .hb K 34 [.slice ia is.length ic, c1, c2, c3] :: ol 23 ia ic is :: ol 23 i.2.1 i.2.2.1 i.2.2.2.1 :: fam 26 i.2.2.2.2.1 :: fam 26 (dn.drop i.1) :: fam 5 i.2.2.2.2.2 :: H)
    (fun i => i.1 ≤ is.length ∧ i.2.2.2.1.length = 2 * i.1 ∧ (∀ j v, i.2.2.2.1[j]? = some v → Vw (Gk i.2.2.2.2.2 (mB (j / 2))) i.2.2.2.2.1 v.a v.c v.xs.length) ∧ (∀ s, s ∈ bs → s ∈ i.2.2.2.2.2))
    (fun i => is.length - i.1) (0, none, 0, [], [], bs) ⟨Nat.zero_le _, rfl, fun j v h => by simp at h, fun _ h => h⟩ ?_ (he := by
      refine Ent.cons (by exact rm) ?_
      refine Ent.cons (by exact rm) ?_
      refine Ent.trans ?_ Ent.nilS
      refine Ent.trans ?_ fam_nil
      exact ent)
  rintro ⟨i, ga, gc, vs, dd, cs⟩ ⟨hi, hvl, hv1, hcc⟩
  simp only at hi hvl hv1 hcc ⊢
  refine sx ?_
  refine s_if rfl (fun t2 => ?_) (fun t2 => ?_)
  · obtain ⟨⟨sa, sc, sx0⟩, hs⟩ := get_lt is i (by omega)
    have hsz := hsmall _ (List.mem_of_getElem? hs)
    obtain ⟨⟨da, dc, dx⟩, d1, d2, d3, d4, d5⟩ := hdg i _ (by omega) hs
    simp only at hsz d2 d3 d4 d5
    subst d2
    subst d3
    have d5 : ∀ y ∈ dx, Gk cs (mB i) y := fun y hy => (d5 y hy).mono hcc
    refine s_ent (ol 26 da dc dx :: fam 26 ([] : List SRg) :: .hb K 34 [.slice ia is.length ic, c1, c2, c3] :: ol 23 ia ic is :: ol 23 ga gc vs :: fam 26 dd :: fam 26 (dn.drop (i + 1)) :: fam 5 cs :: H) (by
      rw [drop_get d1]
      refine (Ent.famC (by exact rm)).trans ?_
      refine Ent.cons (by exact rm) ?_
      exact Ent.trans (by exact ent) fam_nil) ?_
    refine sx ?_
    refine s_loop (fun (j : Nat × SRg × List SRg × List Rg × List SB) => [(0, .pointer (some ⟨K, 0, none⟩)), (8, .slice ga vs.length gc), (9, .int .i64 i), (10, .slice j.2.1.a j.2.2.2.1.length j.2.1.c), (11, .int .i64 j.1)])
      (fun j => ol 26 j.2.1.a j.2.1.c j.2.1.xs :: fam 26 j.2.2.1 :: .hb K 34 [.slice ia is.length ic, c1, c2, c3] :: ol 23 ia ic is :: ol 23 ga gc vs :: fam 26 dd :: fam 26 (dn.drop (i + 1)) :: fam 5 j.2.2.2.2 :: H)
      (fun j => j.1 ≤ 20 ∧ j.2.2.2.1.length = sx0.length + j.1 ∧ j.2.2.2.1.length ≤ j.2.1.xs.length ∧ (∀ y ∈ j.2.1.xs, Gk j.2.2.2.2 (mB i) y) ∧ Vw (Gk j.2.2.2.2 (mB i)) (j.2.1 :: j.2.2.1) da dc sx0.length ∧ (∀ s, s ∈ cs → s ∈ j.2.2.2.2)) (fun j => 20 - j.1)
      (0, (⟨da, dc, dx⟩ : SRg), [], sx0, cs) ⟨Nat.zero_le _, rfl, by simp only; omega, d5, ⟨_, List.mem_cons_self .., rfl, rfl, by simp only [Row.xs]; omega, d5⟩, fun _ h => h⟩ ?_
    rintro ⟨k0, x0, tl0, nv0, es⟩ ⟨hk, hnl, hnx, hxm, hv0, hee⟩
    simp only at hk hnl hnx hxm hv0 hee ⊢
    refine sx ?_
    refine s_if rfl (fun t3 => ?_) (fun t3 => ?_)
    · refine sx ?_
      refine s_bsl ([mB i] : Bs) rfl rfl fun b67 => ?_
      refine sx ?_
      have hup : ∀ s : SB, s ∈ es → s ∈ es ++ [mkK b67 (mB i)] := fun s h => List.mem_append_left _ h
      have hxm2 : ∀ y ∈ x0.xs, Gk (es ++ [mkK b67 (mB i)]) (mB i) y := fun y hy => (hxm y hy).mono hup
      refine s_bsl [mkR b67 (mB i)] rfl rfl fun b68 => ?_
      refine s_appP (xs := x0.xs) (p := nv0.length) (ys := [mkR b67 (mB i)]) ?_ ?_
      · intro hc
        have hpl := putL_len (ys := [mkR b67 (mB i)]) hnx
        refine sx ?_
        refine s_again (k0 + 1, ⟨x0.a, x0.c, putL x0.xs nv0.length [mkR b67 (mB i)]⟩, tl0, mkR b67 (mB i) :: nv0, es ++ [mkK b67 (mB i)]) ⟨by simp only; omega, by simp only [List.length_cons]; omega, by simp only [List.length_cons]; rw [hpl]; simp only [List.length_cons, List.length_nil]; omega, putG hxm2 mkK_good, ?_, fun s h => hup s (hee s h)⟩ (by simp only; omega) (he := ?_)
        · exact (hv0.mono (fun _ h => h) (fun y hy => Gk.mono hy hup)).put rfl rfl (by simp only [Row.xs]; omega) (putG hxm2 mkK_good)
        · refine Ent.cons (by exact rm) (Ent.cons (by exact rm) (Ent.cons (by exact rm) (Ent.cons (by exact rm) (Ent.cons (by exact rm) (Ent.cons (by exact rm) (Ent.cons (by exact rm) ?_))))))
          refine Ent.famS (s := mkK b67 (mB i)) (by exact rm) (by exact rm) ?_
          exact ent
      · intro a' c'
        refine sx ?_
        refine s_again (k0 + 1, ⟨a', c', x0.xs.take nv0.length ++ [mkR b67 (mB i)]⟩, x0 :: tl0, mkR b67 (mB i) :: nv0, es ++ [mkK b67 (mB i)]) ⟨by simp only; omega, by simp only [List.length_cons]; omega, by simp only [List.length_cons, List.length_append, List.length_take, List.length_nil]; omega, tkG hxm2 mkK_good, ?_, fun s h => hup s (hee s h)⟩ (by simp only; omega) (he := ?_)
        · exact hv0.mono (fun s h => List.mem_cons_of_mem _ h) (fun y hy => Gk.mono hy hup)
        · refine Ent.cons (by exact rm) ?_
          refine Ent.famK (by exact rm) (by exact rm) ?_
          refine Ent.cons (by exact rm) (Ent.cons (by exact rm) (Ent.cons (by exact rm) (Ent.cons (by exact rm) (Ent.cons (by exact rm) ?_))))
          refine Ent.famS (s := mkK b67 (mB i)) (by exact rm) (by exact rm) ?_
          exact ent
    · have hgv : Vw (Gk es (mB i)) (x0 :: tl0) x0.a x0.c nv0.length := ⟨x0, List.mem_cons_self .., rfl, rfl, hnx, hxm⟩
      refine sx ?_
      refine s_bsl [(⟨da, dc, sx0⟩ : SRg), ⟨x0.a, x0.c, nv0⟩] rfl rfl fun b9 => ?_
      refine s_app ?_ (hby := by simp only [List.length_cons, List.length_nil]; omega)
      intro ga2 gc2
      refine sx ?_
      have hin : ∀ s : SRg, s ∈ x0 :: tl0 → s ∈ (x0 :: tl0) ++ dd := fun s h => List.mem_append_left _ h
      have hin2 : ∀ s : SRg, s ∈ dd → s ∈ (x0 :: tl0) ++ dd := fun s h => List.mem_append_right _ h
      refine s_again (i + 1, ga2, gc2, vs ++ [(⟨da, dc, sx0⟩ : SRg), ⟨x0.a, x0.c, nv0⟩], (x0 :: tl0) ++ dd, es) ⟨by simp only; omega, by simp only [List.length_append, List.length_cons, List.length_nil]; omega, ?_, fun s h => hee s (hcc s h)⟩ (by simp only; omega) (he := ?_)
      · intro j v hjv
        simp only at hjv ⊢
        by_cases h : j < 2 * i
        · rw [List.getElem?_append_left (by omega)] at hjv
          exact (hv1 j v hjv).mono hin2 (fun y hy => Gk.mono hy hee)
        · rw [List.getElem?_append_right (by omega)] at hjv
          rcases (show j - vs.length = 0 ∨ j - vs.length = 1 ∨ 2 ≤ j - vs.length by omega) with h0 | h0 | h0
          · rw [h0] at hjv
            cases hjv
            rw [show j / 2 = i by omega]
            exact hv0.mono hin (fun _ h => h)
          · rw [h0] at hjv
            cases hjv
            rw [show j / 2 = i by omega]
            exact hgv.mono hin (fun _ h => h)
          · rw [List.getElem?_eq_none (by simpa using h0)] at hjv
            cases hjv
      · refine Ent.cons (by exact rm) ?_
        refine Ent.cons (by exact rm) ?_
        refine Ent.cons (by exact rm) ?_
        refine Ent.famKA (by exact rm) (by exact rm) (by exact rm) ?_
        exact ent
  obtain rfl : i = is.length := by omega
  clear hi
  refine sx ?_
  refine s_loop (fun i : Nat => [(8, .slice ga vs.length gc), (12, .int .i64 i)]) (fun _ => .hb K 34 [.slice ia is.length ic, c1, c2, c3] :: ol 23 ga gc vs :: fam 26 dd :: fam 5 cs :: H)
    (fun i => i ≤ vs.length) (fun i => vs.length - i) 0 (Nat.zero_le _) ?_
  intro i hi
  refine sx ?_
  refine s_if rfl (fun t3 => ?_) (fun t3 => ?_)
  · obtain ⟨v, hv⟩ := get_lt vs i (by omega)
    obtain ⟨ys, y1, y2, y3⟩ := (hv1 i v hv).sl (E := 26)
    have y4 : RSl w0 (.hb K 34 [.slice ia is.length ic, c1, c2, c3] :: ol 23 ga gc vs :: fam 26 dd :: fam 5 cs :: H) v.a v.c ys := (y3 w0 (fam 5 cs :: H)).tl.tl
    refine s_kn (Kn.sl y4) fun l4 => ?_
    simp only [maxLen] at l4
    refine sx ?_
    refine s_loop (fun j : Nat => [(8, .slice ga vs.length gc), (12, .int .i64 i), (13, .int .i64 j)]) (fun _ => .hb K 34 [.slice ia is.length ic, c1, c2, c3] :: ol 23 ga gc vs :: fam 26 dd :: fam 5 cs :: H)
      (fun j => j ≤ v.xs.length) (fun j => v.xs.length - j) 0 (Nat.zero_le _) ?_
    intro j hj
    refine sx ?_
    refine s_if rfl (fun t4 => ?_) (fun t4 => ?_)
    · obtain ⟨y, hy⟩ := get_lt ys j (by omega)
      obtain ⟨g1, g2⟩ := y2 y (List.mem_of_getElem? hy)
      have yb : RBy w0 (.hb K 34 [.slice ia is.length ic, c1, c2, c3] :: ol 23 ga gc vs :: fam 26 dd :: fam 5 cs :: H) y.la y.lc y.lo := (fam_by g2).tl.tl.tl
      obtain ⟨ya, yc, yx, yha, yhc, yhi, yal⟩ := y
      simp only at g1 yb
      subst g1
      refine sx ?_
      refine s_dr (.one true 0 (.one true 1 (.one true 2 (.one true 3 (.one true 4 (.one true 5 (.one true 6 (.one true 7 (.one true 8 (.one true 9 (.one true 10 (.one true 11 (.one false 12 (.one false 13 (.one true 14 .nil))))))))))))))) mixed (by kernel_rfl) ?_
      refine sx ?_
      refine s_rw (t := 144) (v' := bv (mB (i / 2))) rfl (by rw [mB_half]) ?_
      refine s_bsl ([mB (i / 2)] : Bs) rfl rfl fun b45 => ?_
      refine sx ?_
      refine s_yA rfl rfl (y_st (xs := [mB (i / 2)]) (a := some ⟨b45, 0, none⟩) (c := 1) rfl RBy.hd) ?_ (chk_held (by exact entq))
      refine sx ?_
      exact s_again (j + 1) (by omega) (by omega)
    · refine sx ?_
      exact s_again (i + 1) (by omega) (by omega)
  refine sx ?_
  exact s_ret1 rfl rfl ⟨rfl, rfl⟩ (Ent.tl (Ent.tl (Ent.tl (Ent.tl Ent.refl))))
end Go.Sx
