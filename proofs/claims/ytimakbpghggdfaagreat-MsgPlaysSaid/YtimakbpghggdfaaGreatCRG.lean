/- Part of a proof: the lists' end: they are written over, grown, and read again. (Printed by genRG.py.) -/
import Derived.Test.YtimakbpghggdfaaGreatCRD
namespace Go.Sx
open Go Go.Proofs
set_option maxRecDepth 10000
section
variable {P : Program} {S : World → Prop} {l : List (Nat × Value)} {d : Option Tmp} {ty : TypeId} {pos : String} {af : Array Edge} {g : Option (Nat × Bool)}
end
variable {w0 : World} {H : List Ck}
/-- The mark of a list. -/
def mBt (i : Nat) : UInt8 := UInt8.ofInt (i : Int)
abbrev mkB1 (b : Nat) (m : UInt8) : SB := ⟨some ⟨b, 0, none⟩, 1, [m]⟩
abbrev mkE1 (b : Nat) (m : UInt8) : KV := ⟨some ⟨b, 0, none⟩, 1, [m], none, 0, []⟩
abbrev mkM1 (i : Nat) : Mg := ⟨(i : Int), 0, none, 0, [], none, 0, [], none, 0, []⟩
abbrev mkP1 (b : Nat) (m : UInt8) : Pc := ⟨false, some ⟨b, 0, none⟩, 1, [m], none, 0, [], rg0⟩
def GkE (bs : List SB) (i : Nat) (y : KV) : Prop := y.k = [mBt i] ∧ (⟨y.ka, y.kc, y.k⟩ : SB) ∈ bs
def GkM (_ : List SB) (i : Nat) (y : Mg) : Prop := y.st = (i : Int)
def GkP (bs : List SB) (i : Nat) (y : Pc) : Prop := y.key = [mBt i] ∧ (⟨y.ka, y.kc, y.key⟩ : SB) ∈ bs
theorem GkE.mono {bs bs' : List SB} {m : Nat} {y : KV} (h : GkE bs m y) (hb : ∀ s, s ∈ bs → s ∈ bs') : GkE bs' m y := ⟨h.1, hb _ h.2⟩
theorem GkM.mono {bs bs' : List SB} {m : Nat} {y : Mg} (h : GkM bs m y) (_ : ∀ s, s ∈ bs → s ∈ bs') : GkM bs' m y := h
theorem GkP.mono {bs bs' : List SB} {m : Nat} {y : Pc} (h : GkP bs m y) (hb : ∀ s, s ∈ bs → s ∈ bs') : GkP bs' m y := ⟨h.1, hb _ h.2⟩
theorem mkE1_good {bs : List SB} {b i : Nat} : GkE (bs ++ [mkB1 b (mBt i)]) i (mkE1 b (mBt i)) := ⟨rfl, List.mem_append_right _ (List.mem_singleton.2 rfl)⟩
theorem mkM1_good {bs : List SB} {i : Nat} : GkM bs i (mkM1 i) := rfl
theorem mkP1_good {bs : List SB} {b i : Nat} : GkP (bs ++ [mkB1 b (mBt i)]) i (mkP1 b (mBt i)) := ⟨rfl, List.mem_append_right _ (List.mem_singleton.2 rfl)⟩
theorem allG7 {α : Type} {p : α → Prop} {l : List α} (h : ∀ x, x < l.length → ∃ y, l[x]? = some y ∧ p y) : ∀ y ∈ l, p y := fun y hy => by
  obtain ⟨i, hi⟩ := List.getElem?_of_mem hy
  obtain ⟨z, h1, h2⟩ := h i (List.getElem?_eq_some_iff.1 hi).1
  rw [hi] at h1
  cases h1
  exact h2
theorem putG7 {α : Type} {p : α → Prop} {xs : List α} {i : Nat} {e : α} (h : ∀ y ∈ xs, p y) (he : p e) : ∀ y ∈ putL xs i [e], p y := fun y hy => by
  have := hy
  simp only [putL, List.mem_append, List.mem_singleton] at this
  rcases this with (h1 | h1) | h1
  · exact h y (List.mem_of_mem_take h1)
  · rw [h1]; exact he
  · exact h y (List.mem_of_mem_drop h1)
theorem tkG7 {α : Type} {p : α → Prop} {xs : List α} {i : Nat} {e : α} (h : ∀ y ∈ xs, p y) (he : p e) : ∀ y ∈ xs.take i ++ [e], p y := fun y hy => by
  rcases List.mem_append.1 hy with h1 | h1
  · exact h y (List.mem_of_mem_take h1)
  · rw [List.mem_singleton.1 h1]; exact he
structure DnE (is : List SE) (i : Nat) (dn : List SE) (bs : List SB) : Prop where
  len : dn.length = i
  get : ∀ j s, j < i → is[j]? = some s → ∃ d, dn[j]? = some d ∧ d.a = s.a ∧ d.c = s.c ∧ d.xs.length = s.xs.length ∧ ∀ y ∈ d.xs, GkE bs j y
theorem DnE.mono {is dn : List SE} {i : Nat} {bs bs' : List SB} (h : DnE is i dn bs) (hb : ∀ s, s ∈ bs → s ∈ bs') : DnE is i dn bs' :=
  ⟨h.1, fun j s hj hs => (h.2 j s hj hs).imp fun _ ⟨h1, h2, h3, h4, h5⟩ => ⟨h1, h2, h3, h4, fun y hy => (h5 y hy).mono hb⟩⟩
structure MkE (e : Nat) (hs dd : List SE) (bs : List SB) : Prop where
  len : hs.length = 2 * e
  get : ∀ j v, hs[j]? = some v → Vw (GkE bs (j % e)) dd v.a v.c v.xs.length
theorem MkE.mono {hs dd : List SE} {e : Nat} {bs bs' : List SB} (h : MkE e hs dd bs) (hb : ∀ s, s ∈ bs → s ∈ bs') : MkE e hs dd bs' :=
  ⟨h.1, fun j v hv => (h.2 j v hv).mono (fun _ h => h) fun _ hy => hy.mono hb⟩
structure GrE where
  i : Nat
  a : Option Addr
  c : Nat
  vs : List SE
  dd : List SE
  bs : List SB
structure DnM (is : List SMg) (i : Nat) (dn : List SMg) (bs : List SB) : Prop where
  len : dn.length = i
  get : ∀ j s, j < i → is[j]? = some s → ∃ d, dn[j]? = some d ∧ d.a = s.a ∧ d.c = s.c ∧ d.xs.length = s.xs.length ∧ ∀ y ∈ d.xs, GkM bs j y
theorem DnM.mono {is dn : List SMg} {i : Nat} {bs bs' : List SB} (h : DnM is i dn bs) (hb : ∀ s, s ∈ bs → s ∈ bs') : DnM is i dn bs' :=
  ⟨h.1, fun j s hj hs => (h.2 j s hj hs).imp fun _ ⟨h1, h2, h3, h4, h5⟩ => ⟨h1, h2, h3, h4, fun y hy => (h5 y hy).mono hb⟩⟩
structure MkM (e : Nat) (hs dd : List SMg) (bs : List SB) : Prop where
  len : hs.length = 2 * e
  get : ∀ j v, hs[j]? = some v → Vw (GkM bs (j % e)) dd v.a v.c v.xs.length
theorem MkM.mono {hs dd : List SMg} {e : Nat} {bs bs' : List SB} (h : MkM e hs dd bs) (hb : ∀ s, s ∈ bs → s ∈ bs') : MkM e hs dd bs' :=
  ⟨h.1, fun j v hv => (h.2 j v hv).mono (fun _ h => h) fun _ hy => hy.mono hb⟩
structure GrM where
  i : Nat
  a : Option Addr
  c : Nat
  vs : List SMg
  dd : List SMg
  bs : List SB
structure DnP (is : List SPc) (i : Nat) (dn : List SPc) (bs : List SB) : Prop where
  len : dn.length = i
  get : ∀ j s, j < i → is[j]? = some s → ∃ d, dn[j]? = some d ∧ d.a = s.a ∧ d.c = s.c ∧ d.xs.length = s.xs.length ∧ ∀ y ∈ d.xs, GkP bs j y
theorem DnP.mono {is dn : List SPc} {i : Nat} {bs bs' : List SB} (h : DnP is i dn bs) (hb : ∀ s, s ∈ bs → s ∈ bs') : DnP is i dn bs' :=
  ⟨h.1, fun j s hj hs => (h.2 j s hj hs).imp fun _ ⟨h1, h2, h3, h4, h5⟩ => ⟨h1, h2, h3, h4, fun y hy => (h5 y hy).mono hb⟩⟩
structure MkP (e : Nat) (hs dd : List SPc) (bs : List SB) : Prop where
  len : hs.length = 2 * e
  get : ∀ j v, hs[j]? = some v → Vw (GkP bs (j % e)) dd v.a v.c v.xs.length
theorem MkP.mono {hs dd : List SPc} {e : Nat} {bs bs' : List SB} (h : MkP e hs dd bs) (hb : ∀ s, s ∈ bs → s ∈ bs') : MkP e hs dd bs' :=
  ⟨h.1, fun j v hv => (h.2 j v hv).mono (fun _ h => h) fun _ hy => hy.mono hb⟩
structure GrP where
  i : Nat
  a : Option Addr
  c : Nat
  vs : List SPc
  dd : List SPc
  bs : List SB
set_option maxHeartbeats 16000000 in
theorem lsGrow_s {K : Nat} {c1 c2 : Value} {n : Int} {ea ma pa : Option Addr} {ec mc pc : Nat} {es dE : List SE} {ms dM : List SMg} {ps dP : List SPc} {bs0 : List SB} (hdE : DnE es es.length dE bs0) (hdM : DnM ms ms.length dM bs0) (hdP : DnP ps ps.length dP bs0)
    (hsmE : ∀ s ∈ es, s.xs.length ≤ 4294967296) (hsmM : ∀ s ∈ ms, s.xs.length ≤ 4294967296) (hsmP : ∀ s ∈ ps, s.xs.length ≤ 4294967296) (hrows : es.length + ms.length + ps.length ≤ 2932031007402) :
    FnS Tryz.prog w0 (.hb K 69 [c1, c2, .slice ea es.length ec, .slice ma ms.length mc, .slice pa ps.length pc, .int .i64 n] :: ol 22 ea ec es :: fam 31 dE :: ol 23 ma mc ms :: fam 35 dM :: ol 45 pa pc ps :: fam 83 dP :: fam 5 bs0 :: H) 69 #[.pointer (some ⟨K, 0, none⟩)] (fun v H' => v = .tuple #[] ∧ ∃ ga gc hE xE gb gd hM xM ge gf hP xP cs, MkE es.length hE xE cs ∧ MkM ms.length hM xM cs ∧ MkP ps.length hP xP cs ∧
      H' = .hb K 69 [c1, c2, .slice ga hE.length gc, .slice gb hM.length gd, .slice ge hP.length gf, .int .i64 n] :: ol 22 ga gc hE :: fam 31 xE :: ol 23 gb gd hM :: fam 35 xM :: ol 45 ge gf hP :: fam 83 xP :: fam 5 cs :: H) := by
  refine fns_enter Tryz.func69 rfl rfl rfl ?_
  refine sx ?_
  refine s_loop (fun i : GrE => [(0, .pointer (some ⟨K, 0, none⟩)), (2, .int .i64 es.length), (3, .int .i64 i.i)]) (fun i => .hb K 69 [c1, c2, .slice i.a (es ++ i.vs).length i.c, .slice ma ms.length mc, .slice pa ps.length pc, .int .i64 n] :: ol 22 i.a i.c (es ++ i.vs) :: fam 31 i.dd :: fam 31 (dE.drop i.i) :: fam 5 i.bs :: ol 23 ma mc ms :: fam 35 dM :: ol 45 pa pc ps :: fam 83 dP :: H)
    (fun i => i.i ≤ es.length ∧ i.vs.length = i.i ∧ (∀ j v, (es ++ i.vs)[j]? = some v → (j < i.i ∨ es.length ≤ j) → Vw (GkE i.bs (j % es.length)) i.dd v.a v.c v.xs.length) ∧ (∀ t, t ∈ bs0 → t ∈ i.bs)) (fun i => es.length - i.i) ⟨0, ea, ec, [], [], bs0⟩
    ⟨Nat.zero_le _, rfl, fun j v hv hj => by simp only [List.append_nil] at hv; simp only at hj; have := (List.getElem?_eq_some_iff.1 hv).1; omega, fun _ h => h⟩ ?_ (he := by
      simp only [List.append_nil, List.drop_zero]
      refine Ent.cons (by exact rm) (Ent.cons (by exact rm) ?_)
      exact Ent.trans (by exact entq) fam_nil)
  rintro ⟨i, ga, gc, vs, dd, cs⟩ ⟨hi, hvl, hv1, hcc⟩
  simp only at hi hvl hv1 hcc ⊢
  have hal : (es ++ vs).length = es.length + i := by rw [List.length_append, hvl]
  refine sx ?_
  refine s_if rfl (fun t1 => ?_) (fun t1 => ?_)
  · obtain ⟨⟨sa, sc, sx0⟩, hs⟩ := get_lt es i (by omega)
    have hs' : (es ++ vs)[i]? = some ⟨sa, sc, sx0⟩ := by rw [List.getElem?_append_left (by omega)]; exact hs
    have hsz := hsmE _ (List.mem_of_getElem? hs)
    obtain ⟨⟨da, dc, dx⟩, d1, d2, d3, d4, d5⟩ := hdE.get i _ (by omega) hs
    simp only at hsz d2 d3 d4 d5
    subst d2
    subst d3
    have d5 : ∀ y ∈ dx, GkE cs i y := fun y hy => (d5 y hy).mono hcc
    refine s_ent (ol 31 da dc dx :: fam 31 ([] : List SE) :: .hb K 69 [c1, c2, .slice ga (es ++ vs).length gc, .slice ma ms.length mc, .slice pa ps.length pc, .int .i64 n] :: ol 22 ga gc (es ++ vs) :: fam 31 dd :: fam 31 (dE.drop (i + 1)) :: fam 5 cs :: ol 23 ma mc ms :: fam 35 dM :: ol 45 pa pc ps :: fam 83 dP :: H) (by
      rw [dropG d1]
      refine (Ent.famC (by exact rm)).trans ?_
      refine Ent.cons (by exact rm) ?_
      exact Ent.trans (by exact ent) fam_nil) ?_
    refine sx ?_
    refine s_loop (fun (j : Nat × SE × List SE × List KV × List SB) => [(0, .pointer (some ⟨K, 0, none⟩)), (2, .int .i64 es.length), (3, .int .i64 i), (4, .slice j.2.1.a j.2.2.2.1.length j.2.1.c), (5, .int .i64 j.1)])
      (fun j => ol 31 j.2.1.a j.2.1.c j.2.1.xs :: fam 31 j.2.2.1 :: .hb K 69 [c1, c2, .slice ga (es ++ vs).length gc, .slice ma ms.length mc, .slice pa ps.length pc, .int .i64 n] :: ol 22 ga gc (es ++ vs) :: fam 31 dd :: fam 31 (dE.drop (i + 1)) :: fam 5 j.2.2.2.2 :: ol 23 ma mc ms :: fam 35 dM :: ol 45 pa pc ps :: fam 83 dP :: H)
      (fun j => j.1 ≤ 20 ∧ j.2.2.2.1.length = sx0.length + j.1 ∧ j.2.2.2.1.length ≤ j.2.1.xs.length ∧ (∀ y ∈ j.2.1.xs, GkE j.2.2.2.2 i y) ∧ Vw (GkE j.2.2.2.2 i) (j.2.1 :: j.2.2.1) da dc sx0.length ∧ (∀ s, s ∈ cs → s ∈ j.2.2.2.2)) (fun j => 20 - j.1)
      (0, (⟨da, dc, dx⟩ : SE), [], sx0, cs) ⟨Nat.zero_le _, rfl, by simp only; omega, d5, ⟨_, List.mem_cons_self .., rfl, rfl, by simp only [Row.xs]; omega, d5⟩, fun _ h => h⟩ ?_
    rintro ⟨k0, x0, tl0, nv0, es2⟩ ⟨hk, hnl, hnx, hxm, hv0, hee⟩
    simp only at hk hnl hnx hxm hv0 hee ⊢
    refine sx ?_
    refine s_if rfl (fun t3 => ?_) (fun t3 => ?_)
    · refine sx ?_
      refine s_bsl ([mBt i] : Bs) rfl rfl fun b67 => ?_
      refine sx ?_
      have hup : ∀ s : SB, s ∈ es2 → s ∈ es2 ++ [mkB1 b67 (mBt i)] := fun s h => List.mem_append_left _ h
      have hxm2 : ∀ y ∈ x0.xs, GkE (es2 ++ [mkB1 b67 (mBt i)]) i y := fun y hy => (hxm y hy).mono hup
      refine s_bsl [(mkE1 b67 (mBt i))] rfl rfl fun b68 => ?_
      refine s_appP (xs := x0.xs) (p := nv0.length) (ys := [(mkE1 b67 (mBt i))]) ?_ ?_
      · intro hc
        have hpl := putL_len (ys := [(mkE1 b67 (mBt i))]) hnx
        refine sx ?_
        refine s_again (k0 + 1, ⟨x0.a, x0.c, putL x0.xs nv0.length [(mkE1 b67 (mBt i))]⟩, tl0, (mkE1 b67 (mBt i)) :: nv0, es2 ++ [mkB1 b67 (mBt i)]) ⟨by simp only; omega, by simp only [List.length_cons]; omega, by simp only [List.length_cons]; rw [hpl]; simp only [List.length_cons, List.length_nil]; omega, putG7 hxm2 mkE1_good, ?_, fun s h => hup s (hee s h)⟩ (by simp only; omega) (he := ?_)
        · exact (hv0.mono (fun _ h => h) (fun y hy => GkE.mono hy hup)).put rfl rfl (by simp only [Row.xs]; omega) (putG7 hxm2 mkE1_good)
        · refine Ent.cons (by exact rm) (Ent.cons (by exact rm) (Ent.cons (by exact rm) (Ent.cons (by exact rm) (Ent.cons (by exact rm) (Ent.cons (by exact rm) ?_)))))
          refine Ent.famS (s := mkB1 b67 (mBt i)) (by exact rm) (by exact rm) ?_
          exact ent
      · intro a' c'
        refine sx ?_
        refine s_again (k0 + 1, ⟨a', c', x0.xs.take nv0.length ++ [(mkE1 b67 (mBt i))]⟩, x0 :: tl0, (mkE1 b67 (mBt i)) :: nv0, es2 ++ [mkB1 b67 (mBt i)]) ⟨by simp only; omega, by simp only [List.length_cons]; omega, by simp only [List.length_cons, List.length_append, List.length_take, List.length_nil]; omega, tkG7 hxm2 mkE1_good, ?_, fun s h => hup s (hee s h)⟩ (by simp only; omega) (he := ?_)
        · exact hv0.mono (fun s h => List.mem_cons_of_mem _ h) (fun y hy => GkE.mono hy hup)
        · refine Ent.cons (by exact rm) ?_
          refine Ent.famK (by exact rm) (by exact rm) ?_
          refine Ent.cons (by exact rm) (Ent.cons (by exact rm) (Ent.cons (by exact rm) (Ent.cons (by exact rm) ?_)))
          refine Ent.famS (s := mkB1 b67 (mBt i)) (by exact rm) (by exact rm) ?_
          exact ent
    · have hgv : Vw (GkE es2 i) (x0 :: tl0) x0.a x0.c nv0.length := ⟨x0, List.mem_cons_self .., rfl, rfl, hnx, hxm⟩
      refine sx ?_
      refine s_bsl [(⟨x0.a, x0.c, nv0⟩ : SE)] rfl rfl fun b9 => ?_
      refine s_app (xs := es ++ vs) (ys := [(⟨x0.a, x0.c, nv0⟩ : SE)]) ?_ (hby := by simp only [List.length_cons, List.length_nil]; omega)
      intro ga2 gc2
      refine sx ?_
      have hin : ∀ s : SE, s ∈ x0 :: tl0 → s ∈ (x0 :: tl0) ++ dd := fun s h => List.mem_append_left _ h
      have hin2 : ∀ s : SE, s ∈ dd → s ∈ (x0 :: tl0) ++ dd := fun s h => List.mem_append_right _ h
      refine s_again ⟨i + 1, ga2, gc2, vs ++ [(⟨x0.a, x0.c, nv0⟩ : SE)], (x0 :: tl0) ++ dd, es2⟩ ⟨by simp only; omega, by simp only [List.length_append, List.length_cons, List.length_nil]; omega, ?_, fun s h => hee s (hcc s h)⟩ (by simp only; omega) (he := ?_)
      · intro j v hjv hj2
        simp only at hjv hj2 ⊢
        rw [← List.append_assoc] at hjv
        by_cases h : j < es.length + i
        · rw [List.getElem?_append_left (by omega)] at hjv
          by_cases h2 : j = i
          · subst h2
            rw [hs'] at hjv
            cases hjv
            rw [Nat.mod_eq_of_lt (by omega)]
            exact hv0.mono hin (fun _ h => h)
          · exact (hv1 j v hjv (by omega)).mono hin2 (fun y hy => GkE.mono hy hee)
        · rw [List.getElem?_append_right (by omega)] at hjv
          have h3 := (List.getElem?_eq_some_iff.1 hjv).1
          simp only [List.length_cons, List.length_nil] at h3
          have h4 : j - (es ++ vs).length = 0 := by omega
          rw [h4] at hjv
          cases hjv
          rw [show j = es.length + i by omega, Nat.add_mod_left, Nat.mod_eq_of_lt (by omega)]
          exact hgv.mono hin (fun _ h => h)
      · simp only [← List.append_assoc]
        refine Ent.cons (by exact rm) (Ent.cons (by exact rm) ?_)
        refine Ent.famKA (by exact rm) (by exact rm) (by exact rm) ?_
        exact ent
  obtain rfl : i = es.length := by omega
  have hMkE : MkE es.length (es ++ vs) dd cs := ⟨by omega, fun j v hv => hv1 j v hv (Nat.lt_or_ge j es.length)⟩
  obtain ⟨hE, hr2⟩ : ∃ x, x = es ++ vs := ⟨_, rfl⟩
  rw [← hr2] at hMkE ⊢
  clear hr2 hv1 hal t1 hi hvl
  obtain ⟨ga', gc', xE, csE, rfl, rfl, rfl, rfl⟩ : ∃ (x1 : Option Addr) (x2 : Nat) (x3 : List SE) (x4 : List SB), x1 = ga ∧ x2 = gc ∧ x3 = dd ∧ x4 = cs := ⟨_, _, _, _, rfl, rfl, rfl, rfl⟩
  have hdM := hdM.mono hcc
  have hdP := hdP.mono hcc
  clear hcc
  refine sx ?_
  refine s_loop (fun i : GrM => [(0, .pointer (some ⟨K, 0, none⟩)), (6, .int .i64 ms.length), (7, .int .i64 i.i)]) (fun i => .hb K 69 [c1, c2, .slice ga' hE.length gc', .slice i.a (ms ++ i.vs).length i.c, .slice pa ps.length pc, .int .i64 n] :: ol 23 i.a i.c (ms ++ i.vs) :: fam 35 i.dd :: fam 35 (dM.drop i.i) :: fam 5 i.bs :: ol 22 ga' gc' hE :: fam 31 xE :: ol 45 pa pc ps :: fam 83 dP :: H)
    (fun i => i.i ≤ ms.length ∧ i.vs.length = i.i ∧ (∀ j v, (ms ++ i.vs)[j]? = some v → (j < i.i ∨ ms.length ≤ j) → Vw (GkM i.bs (j % ms.length)) i.dd v.a v.c v.xs.length) ∧ (∀ t, t ∈ csE → t ∈ i.bs)) (fun i => ms.length - i.i) ⟨0, ma, mc, [], [], csE⟩
    ⟨Nat.zero_le _, rfl, fun j v hv hj => by simp only [List.append_nil] at hv; simp only at hj; have := (List.getElem?_eq_some_iff.1 hv).1; omega, fun _ h => h⟩ ?_ (he := by
      simp only [List.append_nil, List.drop_zero]
      refine Ent.cons (by exact rm) (Ent.cons (by exact rm) ?_)
      exact Ent.trans (by exact entq) fam_nil)
  rintro ⟨i, ga, gc, vs, dd, cs⟩ ⟨hi, hvl, hv1, hcc⟩
  simp only at hi hvl hv1 hcc ⊢
  have hal : (ms ++ vs).length = ms.length + i := by rw [List.length_append, hvl]
  refine sx ?_
  refine s_if rfl (fun t1 => ?_) (fun t1 => ?_)
  · obtain ⟨⟨sa, sc, sx0⟩, hs⟩ := get_lt ms i (by omega)
    have hs' : (ms ++ vs)[i]? = some ⟨sa, sc, sx0⟩ := by rw [List.getElem?_append_left (by omega)]; exact hs
    have hsz := hsmM _ (List.mem_of_getElem? hs)
    obtain ⟨⟨da, dc, dx⟩, d1, d2, d3, d4, d5⟩ := hdM.get i _ (by omega) hs
    simp only at hsz d2 d3 d4 d5
    subst d2
    subst d3
    have d5 : ∀ y ∈ dx, GkM cs i y := fun y hy => (d5 y hy).mono hcc
    refine s_ent (ol 35 da dc dx :: fam 35 ([] : List SMg) :: .hb K 69 [c1, c2, .slice ga' hE.length gc', .slice ga (ms ++ vs).length gc, .slice pa ps.length pc, .int .i64 n] :: ol 23 ga gc (ms ++ vs) :: fam 35 dd :: fam 35 (dM.drop (i + 1)) :: fam 5 cs :: ol 22 ga' gc' hE :: fam 31 xE :: ol 45 pa pc ps :: fam 83 dP :: H) (by
      rw [dropG d1]
      refine (Ent.famC (by exact rm)).trans ?_
      refine Ent.cons (by exact rm) ?_
      exact Ent.trans (by exact ent) fam_nil) ?_
    refine sx ?_
    refine s_loop (fun (j : Nat × SMg × List SMg × List Mg × List SB) => [(0, .pointer (some ⟨K, 0, none⟩)), (6, .int .i64 ms.length), (7, .int .i64 i), (8, .slice j.2.1.a j.2.2.2.1.length j.2.1.c), (9, .int .i64 j.1)])
      (fun j => ol 35 j.2.1.a j.2.1.c j.2.1.xs :: fam 35 j.2.2.1 :: .hb K 69 [c1, c2, .slice ga' hE.length gc', .slice ga (ms ++ vs).length gc, .slice pa ps.length pc, .int .i64 n] :: ol 23 ga gc (ms ++ vs) :: fam 35 dd :: fam 35 (dM.drop (i + 1)) :: fam 5 j.2.2.2.2 :: ol 22 ga' gc' hE :: fam 31 xE :: ol 45 pa pc ps :: fam 83 dP :: H)
      (fun j => j.1 ≤ 20 ∧ j.2.2.2.1.length = sx0.length + j.1 ∧ j.2.2.2.1.length ≤ j.2.1.xs.length ∧ (∀ y ∈ j.2.1.xs, GkM j.2.2.2.2 i y) ∧ Vw (GkM j.2.2.2.2 i) (j.2.1 :: j.2.2.1) da dc sx0.length ∧ (∀ s, s ∈ cs → s ∈ j.2.2.2.2)) (fun j => 20 - j.1)
      (0, (⟨da, dc, dx⟩ : SMg), [], sx0, cs) ⟨Nat.zero_le _, rfl, by simp only; omega, d5, ⟨_, List.mem_cons_self .., rfl, rfl, by simp only [Row.xs]; omega, d5⟩, fun _ h => h⟩ ?_
    rintro ⟨k0, x0, tl0, nv0, es2⟩ ⟨hk, hnl, hnx, hxm, hv0, hee⟩
    simp only at hk hnl hnx hxm hv0 hee ⊢
    refine sx ?_
    refine s_if rfl (fun t3 => ?_) (fun t3 => ?_)
    · refine sx ?_
      have hup : ∀ s : SB, s ∈ es2 → s ∈ es2 := fun s h => h
      have hxm2 : ∀ y ∈ x0.xs, GkM (es2) i y := fun y hy => (hxm y hy).mono hup
      refine s_bsl [(mkM1 i)] rfl rfl fun b68 => ?_
      refine s_appP (xs := x0.xs) (p := nv0.length) (ys := [(mkM1 i)]) ?_ ?_
      · intro hc
        have hpl := putL_len (ys := [(mkM1 i)]) hnx
        refine sx ?_
        refine s_again (k0 + 1, ⟨x0.a, x0.c, putL x0.xs nv0.length [(mkM1 i)]⟩, tl0, (mkM1 i) :: nv0, es2) ⟨by simp only; omega, by simp only [List.length_cons]; omega, by simp only [List.length_cons]; rw [hpl]; simp only [List.length_cons, List.length_nil]; omega, putG7 hxm2 mkM1_good, ?_, fun s h => hup s (hee s h)⟩ (by simp only; omega) (he := ?_)
        · exact (hv0.mono (fun _ h => h) (fun y hy => GkM.mono hy hup)).put rfl rfl (by simp only [Row.xs]; omega) (putG7 hxm2 mkM1_good)
        · exact ent
      · intro a' c'
        refine sx ?_
        refine s_again (k0 + 1, ⟨a', c', x0.xs.take nv0.length ++ [(mkM1 i)]⟩, x0 :: tl0, (mkM1 i) :: nv0, es2) ⟨by simp only; omega, by simp only [List.length_cons]; omega, by simp only [List.length_cons, List.length_append, List.length_take, List.length_nil]; omega, tkG7 hxm2 mkM1_good, ?_, fun s h => hup s (hee s h)⟩ (by simp only; omega) (he := ?_)
        · exact hv0.mono (fun s h => List.mem_cons_of_mem _ h) (fun y hy => GkM.mono hy hup)
        · refine Ent.cons (by exact rm) ?_
          refine Ent.famK (by exact rm) (by exact rm) ?_
          exact ent
    · have hgv : Vw (GkM es2 i) (x0 :: tl0) x0.a x0.c nv0.length := ⟨x0, List.mem_cons_self .., rfl, rfl, hnx, hxm⟩
      refine sx ?_
      refine s_bsl [(⟨x0.a, x0.c, nv0⟩ : SMg)] rfl rfl fun b9 => ?_
      refine s_app (xs := ms ++ vs) (ys := [(⟨x0.a, x0.c, nv0⟩ : SMg)]) ?_ (hby := by simp only [List.length_cons, List.length_nil]; omega)
      intro ga2 gc2
      refine sx ?_
      have hin : ∀ s : SMg, s ∈ x0 :: tl0 → s ∈ (x0 :: tl0) ++ dd := fun s h => List.mem_append_left _ h
      have hin2 : ∀ s : SMg, s ∈ dd → s ∈ (x0 :: tl0) ++ dd := fun s h => List.mem_append_right _ h
      refine s_again ⟨i + 1, ga2, gc2, vs ++ [(⟨x0.a, x0.c, nv0⟩ : SMg)], (x0 :: tl0) ++ dd, es2⟩ ⟨by simp only; omega, by simp only [List.length_append, List.length_cons, List.length_nil]; omega, ?_, fun s h => hee s (hcc s h)⟩ (by simp only; omega) (he := ?_)
      · intro j v hjv hj2
        simp only at hjv hj2 ⊢
        rw [← List.append_assoc] at hjv
        by_cases h : j < ms.length + i
        · rw [List.getElem?_append_left (by omega)] at hjv
          by_cases h2 : j = i
          · subst h2
            rw [hs'] at hjv
            cases hjv
            rw [Nat.mod_eq_of_lt (by omega)]
            exact hv0.mono hin (fun _ h => h)
          · exact (hv1 j v hjv (by omega)).mono hin2 (fun y hy => GkM.mono hy hee)
        · rw [List.getElem?_append_right (by omega)] at hjv
          have h3 := (List.getElem?_eq_some_iff.1 hjv).1
          simp only [List.length_cons, List.length_nil] at h3
          have h4 : j - (ms ++ vs).length = 0 := by omega
          rw [h4] at hjv
          cases hjv
          rw [show j = ms.length + i by omega, Nat.add_mod_left, Nat.mod_eq_of_lt (by omega)]
          exact hgv.mono hin (fun _ h => h)
      · simp only [← List.append_assoc]
        refine Ent.cons (by exact rm) (Ent.cons (by exact rm) ?_)
        refine Ent.famKA (by exact rm) (by exact rm) (by exact rm) ?_
        exact ent
  obtain rfl : i = ms.length := by omega
  have hMkM : MkM ms.length (ms ++ vs) dd cs := ⟨by omega, fun j v hv => hv1 j v hv (Nat.lt_or_ge j ms.length)⟩
  obtain ⟨hM, hr2⟩ : ∃ x, x = ms ++ vs := ⟨_, rfl⟩
  rw [← hr2] at hMkM ⊢
  clear hr2 hv1 hal t1 hi hvl
  obtain ⟨gb', gd', xM, csM, rfl, rfl, rfl, rfl⟩ : ∃ (x1 : Option Addr) (x2 : Nat) (x3 : List SMg) (x4 : List SB), x1 = ga ∧ x2 = gc ∧ x3 = dd ∧ x4 = cs := ⟨_, _, _, _, rfl, rfl, rfl, rfl⟩
  have hMkE := hMkE.mono hcc
  have hdP := hdP.mono hcc
  clear hcc
  refine sx ?_
  refine s_loop (fun i : GrP => [(0, .pointer (some ⟨K, 0, none⟩)), (10, .int .i64 ps.length), (11, .int .i64 i.i)]) (fun i => .hb K 69 [c1, c2, .slice ga' hE.length gc', .slice gb' hM.length gd', .slice i.a (ps ++ i.vs).length i.c, .int .i64 n] :: ol 45 i.a i.c (ps ++ i.vs) :: fam 83 i.dd :: fam 83 (dP.drop i.i) :: fam 5 i.bs :: ol 22 ga' gc' hE :: fam 31 xE :: ol 23 gb' gd' hM :: fam 35 xM :: H)
    (fun i => i.i ≤ ps.length ∧ i.vs.length = i.i ∧ (∀ j v, (ps ++ i.vs)[j]? = some v → (j < i.i ∨ ps.length ≤ j) → Vw (GkP i.bs (j % ps.length)) i.dd v.a v.c v.xs.length) ∧ (∀ t, t ∈ csM → t ∈ i.bs)) (fun i => ps.length - i.i) ⟨0, pa, pc, [], [], csM⟩
    ⟨Nat.zero_le _, rfl, fun j v hv hj => by simp only [List.append_nil] at hv; simp only at hj; have := (List.getElem?_eq_some_iff.1 hv).1; omega, fun _ h => h⟩ ?_ (he := by
      simp only [List.append_nil, List.drop_zero]
      refine Ent.cons (by exact rm) (Ent.cons (by exact rm) ?_)
      exact Ent.trans (by exact entq) fam_nil)
  rintro ⟨i, ga, gc, vs, dd, cs⟩ ⟨hi, hvl, hv1, hcc⟩
  simp only at hi hvl hv1 hcc ⊢
  have hal : (ps ++ vs).length = ps.length + i := by rw [List.length_append, hvl]
  refine sx ?_
  refine s_if rfl (fun t1 => ?_) (fun t1 => ?_)
  · obtain ⟨⟨sa, sc, sx0⟩, hs⟩ := get_lt ps i (by omega)
    have hs' : (ps ++ vs)[i]? = some ⟨sa, sc, sx0⟩ := by rw [List.getElem?_append_left (by omega)]; exact hs
    have hsz := hsmP _ (List.mem_of_getElem? hs)
    obtain ⟨⟨da, dc, dx⟩, d1, d2, d3, d4, d5⟩ := hdP.get i _ (by omega) hs
    simp only at hsz d2 d3 d4 d5
    subst d2
    subst d3
    have d5 : ∀ y ∈ dx, GkP cs i y := fun y hy => (d5 y hy).mono hcc
    refine s_ent (ol 83 da dc dx :: fam 83 ([] : List SPc) :: .hb K 69 [c1, c2, .slice ga' hE.length gc', .slice gb' hM.length gd', .slice ga (ps ++ vs).length gc, .int .i64 n] :: ol 45 ga gc (ps ++ vs) :: fam 83 dd :: fam 83 (dP.drop (i + 1)) :: fam 5 cs :: ol 22 ga' gc' hE :: fam 31 xE :: ol 23 gb' gd' hM :: fam 35 xM :: H) (by
      rw [dropG d1]
      refine (Ent.famC (by exact rm)).trans ?_
      refine Ent.cons (by exact rm) ?_
      exact Ent.trans (by exact ent) fam_nil) ?_
    refine sx ?_
    refine s_loop (fun (j : Nat × SPc × List SPc × List Pc × List SB) => [(0, .pointer (some ⟨K, 0, none⟩)), (10, .int .i64 ps.length), (11, .int .i64 i), (12, .slice j.2.1.a j.2.2.2.1.length j.2.1.c), (13, .int .i64 j.1)])
      (fun j => ol 83 j.2.1.a j.2.1.c j.2.1.xs :: fam 83 j.2.2.1 :: .hb K 69 [c1, c2, .slice ga' hE.length gc', .slice gb' hM.length gd', .slice ga (ps ++ vs).length gc, .int .i64 n] :: ol 45 ga gc (ps ++ vs) :: fam 83 dd :: fam 83 (dP.drop (i + 1)) :: fam 5 j.2.2.2.2 :: ol 22 ga' gc' hE :: fam 31 xE :: ol 23 gb' gd' hM :: fam 35 xM :: H)
      (fun j => j.1 ≤ 20 ∧ j.2.2.2.1.length = sx0.length + j.1 ∧ j.2.2.2.1.length ≤ j.2.1.xs.length ∧ (∀ y ∈ j.2.1.xs, GkP j.2.2.2.2 i y) ∧ Vw (GkP j.2.2.2.2 i) (j.2.1 :: j.2.2.1) da dc sx0.length ∧ (∀ s, s ∈ cs → s ∈ j.2.2.2.2)) (fun j => 20 - j.1)
      (0, (⟨da, dc, dx⟩ : SPc), [], sx0, cs) ⟨Nat.zero_le _, rfl, by simp only; omega, d5, ⟨_, List.mem_cons_self .., rfl, rfl, by simp only [Row.xs]; omega, d5⟩, fun _ h => h⟩ ?_
    rintro ⟨k0, x0, tl0, nv0, es2⟩ ⟨hk, hnl, hnx, hxm, hv0, hee⟩
    simp only at hk hnl hnx hxm hv0 hee ⊢
    refine sx ?_
    refine s_if rfl (fun t3 => ?_) (fun t3 => ?_)
    · refine sx ?_
      refine s_bsl ([mBt i] : Bs) rfl rfl fun b67 => ?_
      refine sx ?_
      have hup : ∀ s : SB, s ∈ es2 → s ∈ es2 ++ [mkB1 b67 (mBt i)] := fun s h => List.mem_append_left _ h
      have hxm2 : ∀ y ∈ x0.xs, GkP (es2 ++ [mkB1 b67 (mBt i)]) i y := fun y hy => (hxm y hy).mono hup
      refine s_bsl [(mkP1 b67 (mBt i))] rfl rfl fun b68 => ?_
      refine s_appP (xs := x0.xs) (p := nv0.length) (ys := [(mkP1 b67 (mBt i))]) ?_ ?_
      · intro hc
        have hpl := putL_len (ys := [(mkP1 b67 (mBt i))]) hnx
        refine sx ?_
        refine s_again (k0 + 1, ⟨x0.a, x0.c, putL x0.xs nv0.length [(mkP1 b67 (mBt i))]⟩, tl0, (mkP1 b67 (mBt i)) :: nv0, es2 ++ [mkB1 b67 (mBt i)]) ⟨by simp only; omega, by simp only [List.length_cons]; omega, by simp only [List.length_cons]; rw [hpl]; simp only [List.length_cons, List.length_nil]; omega, putG7 hxm2 mkP1_good, ?_, fun s h => hup s (hee s h)⟩ (by simp only; omega) (he := ?_)
        · exact (hv0.mono (fun _ h => h) (fun y hy => GkP.mono hy hup)).put rfl rfl (by simp only [Row.xs]; omega) (putG7 hxm2 mkP1_good)
        · refine Ent.cons (by exact rm) (Ent.cons (by exact rm) (Ent.cons (by exact rm) (Ent.cons (by exact rm) (Ent.cons (by exact rm) (Ent.cons (by exact rm) ?_)))))
          refine Ent.famS (s := mkB1 b67 (mBt i)) (by exact rm) (by exact rm) ?_
          exact ent
      · intro a' c'
        refine sx ?_
        refine s_again (k0 + 1, ⟨a', c', x0.xs.take nv0.length ++ [(mkP1 b67 (mBt i))]⟩, x0 :: tl0, (mkP1 b67 (mBt i)) :: nv0, es2 ++ [mkB1 b67 (mBt i)]) ⟨by simp only; omega, by simp only [List.length_cons]; omega, by simp only [List.length_cons, List.length_append, List.length_take, List.length_nil]; omega, tkG7 hxm2 mkP1_good, ?_, fun s h => hup s (hee s h)⟩ (by simp only; omega) (he := ?_)
        · exact hv0.mono (fun s h => List.mem_cons_of_mem _ h) (fun y hy => GkP.mono hy hup)
        · refine Ent.cons (by exact rm) ?_
          refine Ent.famK (by exact rm) (by exact rm) ?_
          refine Ent.cons (by exact rm) (Ent.cons (by exact rm) (Ent.cons (by exact rm) (Ent.cons (by exact rm) ?_)))
          refine Ent.famS (s := mkB1 b67 (mBt i)) (by exact rm) (by exact rm) ?_
          exact ent
    · have hgv : Vw (GkP es2 i) (x0 :: tl0) x0.a x0.c nv0.length := ⟨x0, List.mem_cons_self .., rfl, rfl, hnx, hxm⟩
      refine sx ?_
      refine s_bsl [(⟨x0.a, x0.c, nv0⟩ : SPc)] rfl rfl fun b9 => ?_
      refine s_app (xs := ps ++ vs) (ys := [(⟨x0.a, x0.c, nv0⟩ : SPc)]) ?_ (hby := by simp only [List.length_cons, List.length_nil]; omega)
      intro ga2 gc2
      refine sx ?_
      have hin : ∀ s : SPc, s ∈ x0 :: tl0 → s ∈ (x0 :: tl0) ++ dd := fun s h => List.mem_append_left _ h
      have hin2 : ∀ s : SPc, s ∈ dd → s ∈ (x0 :: tl0) ++ dd := fun s h => List.mem_append_right _ h
      refine s_again ⟨i + 1, ga2, gc2, vs ++ [(⟨x0.a, x0.c, nv0⟩ : SPc)], (x0 :: tl0) ++ dd, es2⟩ ⟨by simp only; omega, by simp only [List.length_append, List.length_cons, List.length_nil]; omega, ?_, fun s h => hee s (hcc s h)⟩ (by simp only; omega) (he := ?_)
      · intro j v hjv hj2
        simp only at hjv hj2 ⊢
        rw [← List.append_assoc] at hjv
        by_cases h : j < ps.length + i
        · rw [List.getElem?_append_left (by omega)] at hjv
          by_cases h2 : j = i
          · subst h2
            rw [hs'] at hjv
            cases hjv
            rw [Nat.mod_eq_of_lt (by omega)]
            exact hv0.mono hin (fun _ h => h)
          · exact (hv1 j v hjv (by omega)).mono hin2 (fun y hy => GkP.mono hy hee)
        · rw [List.getElem?_append_right (by omega)] at hjv
          have h3 := (List.getElem?_eq_some_iff.1 hjv).1
          simp only [List.length_cons, List.length_nil] at h3
          have h4 : j - (ps ++ vs).length = 0 := by omega
          rw [h4] at hjv
          cases hjv
          rw [show j = ps.length + i by omega, Nat.add_mod_left, Nat.mod_eq_of_lt (by omega)]
          exact hgv.mono hin (fun _ h => h)
      · simp only [← List.append_assoc]
        refine Ent.cons (by exact rm) (Ent.cons (by exact rm) ?_)
        refine Ent.famKA (by exact rm) (by exact rm) (by exact rm) ?_
        exact ent
  obtain rfl : i = ps.length := by omega
  have hMkP : MkP ps.length (ps ++ vs) dd cs := ⟨by omega, fun j v hv => hv1 j v hv (Nat.lt_or_ge j ps.length)⟩
  obtain ⟨hP, hr2⟩ : ∃ x, x = ps ++ vs := ⟨_, rfl⟩
  rw [← hr2] at hMkP ⊢
  clear hr2 hv1 hal t1 hi hvl
  obtain ⟨ge', gf', xP, csP, rfl, rfl, rfl, rfl⟩ : ∃ (x1 : Option Addr) (x2 : Nat) (x3 : List SPc) (x4 : List SB), x1 = ga ∧ x2 = gc ∧ x3 = dd ∧ x4 = cs := ⟨_, _, _, _, rfl, rfl, rfl, rfl⟩
  have hMkE := hMkE.mono hcc
  have hMkM := hMkM.mono hcc
  clear hcc
  refine sx ?_
  refine s_end0 rfl ⟨rfl, ga', gc', hE, xE, gb', gd', hM, xM, ge', gf', hP, xP, csP, hMkE, hMkM, hMkP, rfl⟩ ?_
  refine Ent.cons (by exact rm) (Ent.cons (by exact rm) (Ent.cons (by exact rm) (Ent.cons (by exact rm) (Ent.cons (by exact rm) (Ent.cons (by exact rm) (Ent.cons (by exact rm) (Ent.cons (by exact rm) ?_)))))))
  exact Ent.tl Ent.refl
set_option maxHeartbeats 16000000 in
theorem lsMarked_s {K : Nat} {c1 c2 : Value} {n : Int} {ga gb ge : Option Addr} {gc gd gf : Nat} {e m p : Nat} {hE xE : List SE} {hM xM : List SMg} {hP xP : List SPc} {cs : List SB} (hMkE : MkE e hE xE cs) (hMkM : MkM m hM xM cs) (hMkP : MkP p hP xP cs) (hlim : e + m + p ≤ 2932031007402) :
    FnS Tryz.prog w0 (.hb K 69 [c1, c2, .slice ga hE.length gc, .slice gb hM.length gd, .slice ge hP.length gf, .int .i64 n] :: ol 22 ga gc hE :: fam 31 xE :: ol 23 gb gd hM :: fam 35 xM :: ol 45 ge gf hP :: fam 83 xP :: fam 5 cs :: H) 70 #[.pointer (some ⟨K, 0, none⟩)] (fun v H' => v = .bool true ∧ H' = H) := by
  refine fns_enter Tryz.func70 rfl rfl rfl ?_
  have hlenE := hMkE.len
  refine sx ?_
  refine s_loop (fun i : Nat => [(0, .pointer (some ⟨K, 0, none⟩)), (3, .int .i64 i)]) (fun _ => .hb K 69 [c1, c2, .slice ga hE.length gc, .slice gb hM.length gd, .slice ge hP.length gf, .int .i64 n] :: ol 22 ga gc hE :: fam 31 xE :: ol 23 gb gd hM :: fam 35 xM :: ol 45 ge gf hP :: fam 83 xP :: fam 5 cs :: H) (fun i => i ≤ hE.length) (fun i => hE.length - i) 0 (Nat.zero_le _) ?_
  intro i hi
  refine sx ?_
  refine s_if rfl (fun t3 => ?_) (fun t3 => ?_)
  · obtain ⟨v, hv⟩ := get_lt hE i (by omega)
    obtain ⟨ys, y1, y2, y3⟩ := (hMkE.get i v hv).sl (E := 31)
    have y4 : RSl w0 (.hb K 69 [c1, c2, .slice ga hE.length gc, .slice gb hM.length gd, .slice ge hP.length gf, .int .i64 n] :: ol 22 ga gc hE :: fam 31 xE :: ol 23 gb gd hM :: fam 35 xM :: ol 45 ge gf hP :: fam 83 xP :: fam 5 cs :: H) v.a v.c ys := (y3 w0 []).ent (by exact ent)
    refine s_kn (Kn.sl y4) fun l4 => ?_
    simp only [maxLen] at l4
    have he1 : 1 ≤ e := by omega
    refine sx ?_
    refine s_loop (fun j : Nat => [(0, .pointer (some ⟨K, 0, none⟩)), (3, .int .i64 i), (4, .int .i64 j)]) (fun _ => .hb K 69 [c1, c2, .slice ga hE.length gc, .slice gb hM.length gd, .slice ge hP.length gf, .int .i64 n] :: ol 22 ga gc hE :: fam 31 xE :: ol 23 gb gd hM :: fam 35 xM :: ol 45 ge gf hP :: fam 83 xP :: fam 5 cs :: H) (fun j => j ≤ v.xs.length) (fun j => v.xs.length - j) 0 (Nat.zero_le _) ?_
    intro j hj
    refine sx ?_
    refine s_if rfl (fun t4 => ?_) (fun t4 => ?_)
    · have t4 : (j : Int) < (v.xs.length : Int) := t4
      obtain ⟨y, hy⟩ := get_lt ys j (by omega)
      obtain ⟨g1, g2⟩ := y2 y (List.mem_of_getElem? hy)
      have yb : RBy w0 (.hb K 69 [c1, c2, .slice ga hE.length gc, .slice gb hM.length gd, .slice ge hP.length gf, .int .i64 n] :: ol 22 ga gc hE :: fam 31 xE :: ol 23 gb gd hM :: fam 35 xM :: ol 45 ge gf hP :: fam 83 xP :: fam 5 cs :: H) y.ka y.kc y.k := (fam_by (E := 5) (H := []) g2).ent (by exact ent)
      obtain ⟨ya, yc, yx, yva, yvc, yv⟩ := y
      simp only at g1 yb
      subst g1
      refine sx ?_
      refine s_dr (.one true 0 (.one true 1 (.one true 2 (.one true 3 (.one true 4 (.one true 5 (.one true 6 (.one true 7 (.one true 8 (.one true 9 (.one true 10 (.one true 11 (.one true 12 (.one true 13 (.one true 14 (.one true 15 (.one true 16 (.one true 17 (.one true 18 (.one true 19 (.one true 20 (.one false 21 (.one false 22 (.one true 23 .nil)))))))))))))))))))))))) mixed (by kernel_rfl) ?_
      refine sx ?_
      have hq : (i : Int) % ((hE.length : Int) / 2) = ((i % e : Nat) : Int) := by rw [show (hE.length : Int) / 2 = (e : Int) by omega]; rfl
      refine s_rw (t := 50) (v' := bv (mBt (i % e))) rfl (by rw [hq]; rfl) ?_
      refine s_bsl ([mBt (i % e)] : Bs) rfl rfl fun b45 => ?_
      refine sx ?_
      refine s_yA rfl rfl (y_st (xs := [mBt (i % e)]) (a := some ⟨b45, 0, none⟩) (c := 1) rfl RBy.hd) ?_ (chk_held (by exact entq))
      refine sx ?_
      exact s_again (j + 1) (by omega) (by omega)
    · refine sx ?_
      exact s_again (i + 1) (by omega) (by omega)
  clear t3 hi
  have hlenM := hMkM.len
  refine sx ?_
  refine s_loop (fun i : Nat => [(0, .pointer (some ⟨K, 0, none⟩)), (5, .int .i64 i)]) (fun _ => .hb K 69 [c1, c2, .slice ga hE.length gc, .slice gb hM.length gd, .slice ge hP.length gf, .int .i64 n] :: ol 22 ga gc hE :: fam 31 xE :: ol 23 gb gd hM :: fam 35 xM :: ol 45 ge gf hP :: fam 83 xP :: fam 5 cs :: H) (fun i => i ≤ hM.length) (fun i => hM.length - i) 0 (Nat.zero_le _) ?_
  intro i hi
  refine sx ?_
  refine s_if rfl (fun t3 => ?_) (fun t3 => ?_)
  · obtain ⟨v, hv⟩ := get_lt hM i (by omega)
    obtain ⟨ys, y1, y2, y3⟩ := (hMkM.get i v hv).sl (E := 35)
    have y4 : RSl w0 (.hb K 69 [c1, c2, .slice ga hE.length gc, .slice gb hM.length gd, .slice ge hP.length gf, .int .i64 n] :: ol 22 ga gc hE :: fam 31 xE :: ol 23 gb gd hM :: fam 35 xM :: ol 45 ge gf hP :: fam 83 xP :: fam 5 cs :: H) v.a v.c ys := (y3 w0 []).ent (by exact ent)
    refine s_kn (Kn.sl y4) fun l4 => ?_
    simp only [maxLen] at l4
    have he1 : 1 ≤ m := by omega
    refine sx ?_
    refine s_loop (fun j : Nat => [(0, .pointer (some ⟨K, 0, none⟩)), (5, .int .i64 i), (6, .int .i64 j)]) (fun _ => .hb K 69 [c1, c2, .slice ga hE.length gc, .slice gb hM.length gd, .slice ge hP.length gf, .int .i64 n] :: ol 22 ga gc hE :: fam 31 xE :: ol 23 gb gd hM :: fam 35 xM :: ol 45 ge gf hP :: fam 83 xP :: fam 5 cs :: H) (fun j => j ≤ v.xs.length) (fun j => v.xs.length - j) 0 (Nat.zero_le _) ?_
    intro j hj
    refine sx ?_
    refine s_if rfl (fun t4 => ?_) (fun t4 => ?_)
    · have t4 : (j : Int) < (v.xs.length : Int) := t4
      obtain ⟨y, hy⟩ := get_lt ys j (by omega)
      have g1 : y.st = ((i % m : Nat) : Int) := y2 y (List.mem_of_getElem? hy)
      have hml := Nat.mod_le i m
      refine sx ?_
      refine s_dr (.one true 0 (.one true 1 (.one true 2 (.one true 3 (.one true 4 (.one true 5 (.one true 6 (.one true 7 (.one true 8 (.one true 9 (.one true 10 (.one true 11 (.one true 12 (.one true 13 (.one true 14 (.one true 15 (.one true 16 (.one true 17 (.one true 18 (.one true 19 (.one true 20 .nil))))))))))))))))))))) mixed (by kernel_rfl) ?_
      refine sx ?_
      have hq : (i : Int) % ((hM.length : Int) / 2) = ((i % m : Nat) : Int) := by rw [show (hM.length : Int) / 2 = (m : Int) by omega]; rfl
      have hw : IntKind.u64.wrap ((i % m : Nat) : Int) = ((i % m : Nat) : Int) := wrap_u64 (Nat.lt_of_le_of_lt hml (by omega))
      refine s_cF rfl (by rw [hq, hw, g1]; simp) ?_
      refine sx ?_
      exact s_again (j + 1) (by omega) (by omega)
    · refine sx ?_
      exact s_again (i + 1) (by omega) (by omega)
  clear t3 hi
  have hlenP := hMkP.len
  refine sx ?_
  refine s_loop (fun i : Nat => [(0, .pointer (some ⟨K, 0, none⟩)), (7, .int .i64 i)]) (fun _ => .hb K 69 [c1, c2, .slice ga hE.length gc, .slice gb hM.length gd, .slice ge hP.length gf, .int .i64 n] :: ol 22 ga gc hE :: fam 31 xE :: ol 23 gb gd hM :: fam 35 xM :: ol 45 ge gf hP :: fam 83 xP :: fam 5 cs :: H) (fun i => i ≤ hP.length) (fun i => hP.length - i) 0 (Nat.zero_le _) ?_
  intro i hi
  refine sx ?_
  refine s_if rfl (fun t3 => ?_) (fun t3 => ?_)
  · obtain ⟨v, hv⟩ := get_lt hP i (by omega)
    obtain ⟨ys, y1, y2, y3⟩ := (hMkP.get i v hv).sl (E := 83)
    have y4 : RSl w0 (.hb K 69 [c1, c2, .slice ga hE.length gc, .slice gb hM.length gd, .slice ge hP.length gf, .int .i64 n] :: ol 22 ga gc hE :: fam 31 xE :: ol 23 gb gd hM :: fam 35 xM :: ol 45 ge gf hP :: fam 83 xP :: fam 5 cs :: H) v.a v.c ys := (y3 w0 []).ent (by exact ent)
    refine s_kn (Kn.sl y4) fun l4 => ?_
    simp only [maxLen] at l4
    have he1 : 1 ≤ p := by omega
    refine sx ?_
    refine s_loop (fun j : Nat => [(0, .pointer (some ⟨K, 0, none⟩)), (7, .int .i64 i), (8, .int .i64 j)]) (fun _ => .hb K 69 [c1, c2, .slice ga hE.length gc, .slice gb hM.length gd, .slice ge hP.length gf, .int .i64 n] :: ol 22 ga gc hE :: fam 31 xE :: ol 23 gb gd hM :: fam 35 xM :: ol 45 ge gf hP :: fam 83 xP :: fam 5 cs :: H) (fun j => j ≤ v.xs.length) (fun j => v.xs.length - j) 0 (Nat.zero_le _) ?_
    intro j hj
    refine sx ?_
    refine s_if rfl (fun t4 => ?_) (fun t4 => ?_)
    · have t4 : (j : Int) < (v.xs.length : Int) := t4
      obtain ⟨y, hy⟩ := get_lt ys j (by omega)
      obtain ⟨g1, g2⟩ := y2 y (List.mem_of_getElem? hy)
      have yb : RBy w0 (.hb K 69 [c1, c2, .slice ga hE.length gc, .slice gb hM.length gd, .slice ge hP.length gf, .int .i64 n] :: ol 22 ga gc hE :: fam 31 xE :: ol 23 gb gd hM :: fam 35 xM :: ol 45 ge gf hP :: fam 83 xP :: fam 5 cs :: H) y.ka y.kc y.key := (fam_by (E := 5) (H := []) g2).ent (by exact ent)
      obtain ⟨yput, ya, yc, yx, yva, yvc, yv, yg⟩ := y
      simp only at g1 yb
      subst g1
      refine sx ?_
      refine s_dr (.one true 0 (.one true 1 (.one true 2 (.one true 3 (.one true 4 (.one true 5 (.one true 6 (.one true 7 (.one true 8 (.one true 9 (.one true 10 (.one true 11 (.one true 12 (.one true 13 (.one true 14 (.one true 15 (.one true 16 (.one true 17 (.one true 18 (.one true 19 (.one true 20 (.one false 21 (.one false 22 (.one true 23 .nil)))))))))))))))))))))))) mixed (by kernel_rfl) ?_
      refine sx ?_
      have hq : (i : Int) % ((hP.length : Int) / 2) = ((i % p : Nat) : Int) := by rw [show (hP.length : Int) / 2 = (p : Int) by omega]; rfl
      refine s_rw (t := 137) (v' := bv (mBt (i % p))) rfl (by rw [hq]; rfl) ?_
      refine s_bsl ([mBt (i % p)] : Bs) rfl rfl fun b45 => ?_
      refine sx ?_
      refine s_yA rfl rfl (y_st (xs := [mBt (i % p)]) (a := some ⟨b45, 0, none⟩) (c := 1) rfl RBy.hd) ?_ (chk_held (by exact entq))
      refine sx ?_
      exact s_again (j + 1) (by omega) (by omega)
    · refine sx ?_
      exact s_again (i + 1) (by omega) (by omega)
  clear t3 hi
  refine sx ?_
  refine s_ret1 rfl rfl ⟨rfl, rfl⟩ ?_
  exact Ent.dropL [_, _, _, _, _, _, _, _]
set_option maxHeartbeats 16000000 in
theorem lsEnds_s {B : Ob} {L : LsT} {n : Int} {cnt rows : Nat} (h : LsOk B L n cnt rows) (hc : cnt ≤ 3000000000000) (hrw : rows ≤ 2932031007402) :
    FnS Tryz.prog w0 (B.ck :: .star L.X :: H) 27 #[.pointer (some ⟨B.k, 0, none⟩)] (fun v H' => v = .bool true ∧ H' = H) := by
  obtain ⟨hok, hsf, hrows, hsmE, hsmM, hsmP⟩ := h
  obtain ⟨K, sf, la, lc, ls, wa, wc, ws⟩ := B
  obtain ⟨ea, ec, es, ma, mc, ms, pa, pc, ps⟩ := L
  simp only [LsT.sf, LsT.X] at hok hsf hrows hsmE hsmM hsmP ⊢
  subst hsf
  have hlen := hok.len
  simp only at hlen
  refine fns_enter Tryz.func27 rfl rfl rfl ?_
  refine s_ent (.hb K 69 (.slice la ls.length lc :: .slice wa ws.length wc :: [.slice ea es.length ec, .slice ma ms.length mc, .slice pa ps.length pc, .int .i64 n]) :: ol 24 la lc ls :: fam 5 ls :: ol 9 wa wc ws :: ol 22 ea ec es :: fam 31 es :: ol 23 ma mc ms :: fam 35 ms :: ol 45 pa pc ps :: fam 83 ps :: H) ?_ ?_
  · refine Ent.open ?_
    show Ent (.hb K 69 (.slice la ls.length lc :: .slice wa ws.length wc :: [.slice ea es.length ec, .slice ma ms.length mc, .slice pa ps.length pc, .int .i64 n]) :: ol 24 la lc ls :: ol 9 wa wc ws :: fam 5 ls :: .star [ol 22 ea ec es, fam 31 es, ol 23 ma mc ms, fam 35 ms, ol 45 pa pc ps, fam 83 ps] :: H) _
    refine Ent.cons (by exact rm) (Ent.cons (by exact rm) (Ent.cons (by exact rm) (Ent.cons (by exact rm) ?_)))
    exact Ent.open (L := [_, _, _, _, _, _]) Ent.refl
  refine sx ?_
  refine s_rw (t := 15) (v' := .pointer (some ⟨K, 0, none⟩)) rfl rfl ?_
  refine s_call rfl (bends_s (by omega) hok.small hok.same) ?_
  rintro _ _ ⟨rfl, rfl⟩
  refine ⟨chk_seq, ?_⟩
  obtain ⟨c1, hc1⟩ : ∃ c1 : Value, c1 = .slice la ls.length lc := ⟨_, rfl⟩
  obtain ⟨c2, hc2⟩ : ∃ c2 : Value, c2 = .slice wa ws.length wc := ⟨_, rfl⟩
  rw [← hc1, ← hc2]
  clear hc1 hc2 hok hlen
  obtain ⟨bs00, hb00⟩ : ∃ b : List SB, b = [] := ⟨_, rfl⟩
  refine s_entL (.hb K 69 [c1, c2, .slice ea es.length ec, .slice ma ms.length mc, .slice pa ps.length pc, .int .i64 n] :: fam 5 bs00 :: ol 22 ea ec es :: fam 31 es :: ol 23 ma mc ms :: fam 35 ms :: ol 45 pa pc ps :: fam 83 ps :: H) (by rw [hb00]; exact Ent.head fam_nil) ?_
  refine sx ?_
  refine s_loop (fun i : Nat × List SE × List SB => [(0, .pointer (some ⟨K, 0, none⟩)), (4, .int .i64 i.1)]) (fun i => .hb K 69 [c1, c2, .slice ea es.length ec, .slice ma ms.length mc, .slice pa ps.length pc, .int .i64 n] :: ol 22 ea ec es :: fam 31 i.2.1 :: fam 31 (es.drop i.1) :: fam 5 i.2.2 :: ol 23 ma mc ms :: fam 35 ms :: ol 45 pa pc ps :: fam 83 ps :: H)
    (fun i => i.1 ≤ es.length ∧ DnE es i.1 i.2.1 i.2.2 ∧ (∀ s, s ∈ bs00 → s ∈ i.2.2)) (fun i => es.length - i.1) (0, [], bs00) ⟨Nat.zero_le _, ⟨rfl, fun j s h => by omega⟩, fun _ h => h⟩ ?_ (he := by
      show Ent _ (.hb K 69 [c1, c2, .slice ea es.length ec, .slice ma ms.length mc, .slice pa ps.length pc, .int .i64 n] :: ol 22 ea ec es :: fam 31 ([] : List SE) :: fam 31 es :: fam 5 bs00 :: ol 23 ma mc ms :: fam 35 ms :: ol 45 pa pc ps :: fam 83 ps :: H)
      refine Ent.cons (by exact rm) (Ent.cons (by exact rm) ?_)
      exact Ent.trans (by exact entq) fam_nil)
  rintro ⟨i, dn, bs⟩ ⟨hi, hdn, hb0⟩
  simp only at hi hdn hb0 ⊢
  refine sx ?_
  refine s_if rfl (fun t1 => ?_) (fun t1 => ?_)
  · obtain ⟨⟨sa, sc, sx0⟩, hs⟩ := get_lt es i (by omega)
    have hsz := hsmE _ (List.mem_of_getElem? hs)
    simp only at hsz
    refine s_ent (ol 31 sa sc sx0 :: .hb K 69 [c1, c2, .slice ea es.length ec, .slice ma ms.length mc, .slice pa ps.length pc, .int .i64 n] :: ol 22 ea ec es :: fam 31 dn :: fam 31 (es.drop (i + 1)) :: fam 5 bs :: ol 23 ma mc ms :: fam 35 ms :: ol 45 pa pc ps :: fam 83 ps :: H) (by
      rw [dropG hs]
      exact (Ent.famC (by exact rm)).trans (by exact ent)) ?_
    refine sx ?_
    refine s_loop (fun (j : Nat × List KV × List SB) => [(0, .pointer (some ⟨K, 0, none⟩)), (4, .int .i64 i), (5, .slice sa sx0.length sc), (6, .int .i64 j.1)]) (fun j => ol 31 sa sc j.2.1 :: .hb K 69 [c1, c2, .slice ea es.length ec, .slice ma ms.length mc, .slice pa ps.length pc, .int .i64 n] :: ol 22 ea ec es :: fam 31 dn :: fam 31 (es.drop (i + 1)) :: fam 5 j.2.2 :: ol 23 ma mc ms :: fam 35 ms :: ol 45 pa pc ps :: fam 83 ps :: H)
      (fun j => j.1 ≤ sx0.length ∧ j.2.1.length = sx0.length ∧ (∀ x, x < j.1 → ∃ y, j.2.1[x]? = some y ∧ GkE j.2.2 i y) ∧ (∀ s, s ∈ bs → s ∈ j.2.2)) (fun j => sx0.length - j.1) (0, sx0, bs) ⟨Nat.zero_le _, rfl, fun x h => by omega, fun _ h => h⟩ ?_
    rintro ⟨j, ys, bs2⟩ ⟨hj, hyl, hys, hbb⟩
    simp only at hj hyl hys hbb ⊢
    refine sx ?_
    refine s_if rfl (fun t2 => ?_) (fun t2 => ?_)
    · have t2 : (j : Int) < (sx0.length : Int) := t2
      refine s_kn (φ := ∃ ad, sa = some ad) (fun w hw => own_gA (Sat.ownOf (c' := ol 31 sa sc ys) .hd hw) (by omega)) ?_
      rintro ⟨ad, rfl⟩
      refine sx ?_
      refine s_bsl ([mBt i] : Bs) rfl rfl fun b42 => ?_
      refine sx ?_
      refine s_setA (i := j) (y := (mkE1 b42 (mBt i))) rfl rfl (by exact at_) rfl (by omega) ?_
      refine sx ?_
      refine s_again (j + 1, ys.set j (mkE1 b42 (mBt i)), bs2 ++ [mkB1 b42 (mBt i)]) ⟨by simp only; omega, by simp only [List.length_set]; exact hyl, fun x hx => ?_, fun s hs => List.mem_append_left _ (hbb s hs)⟩ (by simp only; omega) (he := ?_)
      · simp only at hx ⊢
        by_cases h : x = j
        · subst h
          exact ⟨_, List.getElem?_set_self (by omega), mkE1_good⟩
        · obtain ⟨y, h1, h2⟩ := hys x (by omega)
          exact ⟨y, by rw [List.getElem?_set_ne (by omega)]; exact h1, h2.mono (fun s hs => List.mem_append_left _ hs)⟩
      · refine Ent.cons (by exact rm) (Ent.cons (by exact rm) (Ent.cons (by exact rm) (Ent.cons (by exact rm) (Ent.cons (by exact rm) ?_))))
        refine Ent.famS (s := mkB1 b42 (mBt i)) (by exact rm) (by exact rm) ?_
        exact ent
    · have t2 : ¬ (j : Int) < (sx0.length : Int) := t2
      have hya := allG7 (l := ys) (fun x hx => hys x (by omega))
      refine sx ?_
      refine s_again (i + 1, dn ++ [(⟨sa, sc, ys⟩ : SE)], bs2) ⟨by simp only; omega, ⟨by simp only [List.length_append, List.length_cons, List.length_nil, hdn.1], fun k s hk hks => ?_⟩, fun s hs => hbb s (hb0 s hs)⟩ (by simp only; omega) (he := ?_)
      · simp only at hk ⊢
        by_cases h : k < i
        · obtain ⟨d, d1, d2, d3, d4, d5⟩ := hdn.2 k s h hks
          exact ⟨d, by rw [List.getElem?_append_left (by rw [hdn.1]; exact h)]; exact d1, d2, d3, d4, fun y hy => (d5 y hy).mono hbb⟩
        · obtain rfl : k = i := by omega
          rw [hs] at hks
          cases hks
          refine ⟨⟨sa, sc, ys⟩, by rw [List.getElem?_append_right (by rw [hdn.1]; exact Nat.le_refl _), hdn.1, Nat.sub_self]; rfl, rfl, rfl, hyl, hya⟩
      · refine Ent.cons (by exact rm) ?_
        refine Ent.cons (by exact rm) ?_
        refine Ent.famS (by exact rm) (by exact rm) ?_
        exact ent
  obtain rfl : i = es.length := by omega
  clear t1 hi
  obtain ⟨dE, bs1, rfl, rfl⟩ : ∃ dE bs1, dE = dn ∧ bs1 = bs := ⟨_, _, rfl, rfl⟩
  have hdE := hdn
  clear hdn hb0
  refine sx ?_
  refine s_loop (fun i : Nat × List SMg × List SB => [(0, .pointer (some ⟨K, 0, none⟩)), (7, .int .i64 i.1)]) (fun i => .hb K 69 [c1, c2, .slice ea es.length ec, .slice ma ms.length mc, .slice pa ps.length pc, .int .i64 n] :: ol 23 ma mc ms :: fam 35 i.2.1 :: fam 35 (ms.drop i.1) :: fam 5 i.2.2 :: ol 22 ea ec es :: fam 31 dE :: ol 45 pa pc ps :: fam 83 ps :: H)
    (fun i => i.1 ≤ ms.length ∧ DnM ms i.1 i.2.1 i.2.2 ∧ (∀ s, s ∈ bs1 → s ∈ i.2.2)) (fun i => ms.length - i.1) (0, [], bs1) ⟨Nat.zero_le _, ⟨rfl, fun j s h => by omega⟩, fun _ h => h⟩ ?_ (he := by
      show Ent _ (.hb K 69 [c1, c2, .slice ea es.length ec, .slice ma ms.length mc, .slice pa ps.length pc, .int .i64 n] :: ol 23 ma mc ms :: fam 35 ([] : List SMg) :: fam 35 ms :: fam 5 bs1 :: ol 22 ea ec es :: fam 31 dE :: ol 45 pa pc ps :: fam 83 ps :: H)
      refine Ent.cons (by exact rm) (Ent.cons (by exact rm) ?_)
      exact Ent.trans (by exact entq) fam_nil)
  rintro ⟨i, dn, bs⟩ ⟨hi, hdn, hb0⟩
  simp only at hi hdn hb0 ⊢
  refine sx ?_
  refine s_if rfl (fun t1 => ?_) (fun t1 => ?_)
  · obtain ⟨⟨sa, sc, sx0⟩, hs⟩ := get_lt ms i (by omega)
    have hsz := hsmM _ (List.mem_of_getElem? hs)
    simp only at hsz
    refine s_ent (ol 35 sa sc sx0 :: .hb K 69 [c1, c2, .slice ea es.length ec, .slice ma ms.length mc, .slice pa ps.length pc, .int .i64 n] :: ol 23 ma mc ms :: fam 35 dn :: fam 35 (ms.drop (i + 1)) :: fam 5 bs :: ol 22 ea ec es :: fam 31 dE :: ol 45 pa pc ps :: fam 83 ps :: H) (by
      rw [dropG hs]
      exact (Ent.famC (by exact rm)).trans (by exact ent)) ?_
    refine sx ?_
    refine s_loop (fun (j : Nat × List Mg × List SB) => [(0, .pointer (some ⟨K, 0, none⟩)), (7, .int .i64 i), (8, .slice sa sx0.length sc), (9, .int .i64 j.1)]) (fun j => ol 35 sa sc j.2.1 :: .hb K 69 [c1, c2, .slice ea es.length ec, .slice ma ms.length mc, .slice pa ps.length pc, .int .i64 n] :: ol 23 ma mc ms :: fam 35 dn :: fam 35 (ms.drop (i + 1)) :: fam 5 j.2.2 :: ol 22 ea ec es :: fam 31 dE :: ol 45 pa pc ps :: fam 83 ps :: H)
      (fun j => j.1 ≤ sx0.length ∧ j.2.1.length = sx0.length ∧ (∀ x, x < j.1 → ∃ y, j.2.1[x]? = some y ∧ GkM j.2.2 i y) ∧ (∀ s, s ∈ bs → s ∈ j.2.2)) (fun j => sx0.length - j.1) (0, sx0, bs) ⟨Nat.zero_le _, rfl, fun x h => by omega, fun _ h => h⟩ ?_
    rintro ⟨j, ys, bs2⟩ ⟨hj, hyl, hys, hbb⟩
    simp only at hj hyl hys hbb ⊢
    refine sx ?_
    refine s_if rfl (fun t2 => ?_) (fun t2 => ?_)
    · have t2 : (j : Int) < (sx0.length : Int) := t2
      refine s_kn (φ := ∃ ad, sa = some ad) (fun w hw => own_gA (Sat.ownOf (c' := ol 35 sa sc ys) .hd hw) (by omega)) ?_
      rintro ⟨ad, rfl⟩
      refine sx ?_
      refine s_setA (i := j) (y := (mkM1 i)) rfl rfl (by exact at_) rfl (by omega) ?_
      refine sx ?_
      refine s_again (j + 1, ys.set j (mkM1 i), bs2) ⟨by simp only; omega, by simp only [List.length_set]; exact hyl, fun x hx => ?_, fun s hs => hbb s hs⟩ (by simp only; omega) (he := ?_)
      · simp only at hx ⊢
        by_cases h : x = j
        · subst h
          exact ⟨_, List.getElem?_set_self (by omega), mkM1_good⟩
        · obtain ⟨y, h1, h2⟩ := hys x (by omega)
          exact ⟨y, by rw [List.getElem?_set_ne (by omega)]; exact h1, h2.mono (fun s hs => hs)⟩
      · exact ent
    · have t2 : ¬ (j : Int) < (sx0.length : Int) := t2
      have hya := allG7 (l := ys) (fun x hx => hys x (by omega))
      refine sx ?_
      refine s_again (i + 1, dn ++ [(⟨sa, sc, ys⟩ : SMg)], bs2) ⟨by simp only; omega, ⟨by simp only [List.length_append, List.length_cons, List.length_nil, hdn.1], fun k s hk hks => ?_⟩, fun s hs => hbb s (hb0 s hs)⟩ (by simp only; omega) (he := ?_)
      · simp only at hk ⊢
        by_cases h : k < i
        · obtain ⟨d, d1, d2, d3, d4, d5⟩ := hdn.2 k s h hks
          exact ⟨d, by rw [List.getElem?_append_left (by rw [hdn.1]; exact h)]; exact d1, d2, d3, d4, fun y hy => (d5 y hy).mono hbb⟩
        · obtain rfl : k = i := by omega
          rw [hs] at hks
          cases hks
          refine ⟨⟨sa, sc, ys⟩, by rw [List.getElem?_append_right (by rw [hdn.1]; exact Nat.le_refl _), hdn.1, Nat.sub_self]; rfl, rfl, rfl, hyl, hya⟩
      · refine Ent.cons (by exact rm) ?_
        refine Ent.cons (by exact rm) ?_
        refine Ent.famS (by exact rm) (by exact rm) ?_
        exact ent
  obtain rfl : i = ms.length := by omega
  clear t1 hi
  obtain ⟨dM, bs2, rfl, rfl⟩ : ∃ dM bs2, dM = dn ∧ bs2 = bs := ⟨_, _, rfl, rfl⟩
  have hdM := hdn
  have hdE := hdE.mono hb0
  clear hdn hb0
  refine sx ?_
  refine s_loop (fun i : Nat × List SPc × List SB => [(0, .pointer (some ⟨K, 0, none⟩)), (10, .int .i64 i.1)]) (fun i => .hb K 69 [c1, c2, .slice ea es.length ec, .slice ma ms.length mc, .slice pa ps.length pc, .int .i64 n] :: ol 45 pa pc ps :: fam 83 i.2.1 :: fam 83 (ps.drop i.1) :: fam 5 i.2.2 :: ol 22 ea ec es :: fam 31 dE :: ol 23 ma mc ms :: fam 35 dM :: H)
    (fun i => i.1 ≤ ps.length ∧ DnP ps i.1 i.2.1 i.2.2 ∧ (∀ s, s ∈ bs2 → s ∈ i.2.2)) (fun i => ps.length - i.1) (0, [], bs2) ⟨Nat.zero_le _, ⟨rfl, fun j s h => by omega⟩, fun _ h => h⟩ ?_ (he := by
      show Ent _ (.hb K 69 [c1, c2, .slice ea es.length ec, .slice ma ms.length mc, .slice pa ps.length pc, .int .i64 n] :: ol 45 pa pc ps :: fam 83 ([] : List SPc) :: fam 83 ps :: fam 5 bs2 :: ol 22 ea ec es :: fam 31 dE :: ol 23 ma mc ms :: fam 35 dM :: H)
      refine Ent.cons (by exact rm) (Ent.cons (by exact rm) ?_)
      exact Ent.trans (by exact entq) fam_nil)
  rintro ⟨i, dn, bs⟩ ⟨hi, hdn, hb0⟩
  simp only at hi hdn hb0 ⊢
  refine sx ?_
  refine s_if rfl (fun t1 => ?_) (fun t1 => ?_)
  · obtain ⟨⟨sa, sc, sx0⟩, hs⟩ := get_lt ps i (by omega)
    have hsz := hsmP _ (List.mem_of_getElem? hs)
    simp only at hsz
    refine s_ent (ol 83 sa sc sx0 :: .hb K 69 [c1, c2, .slice ea es.length ec, .slice ma ms.length mc, .slice pa ps.length pc, .int .i64 n] :: ol 45 pa pc ps :: fam 83 dn :: fam 83 (ps.drop (i + 1)) :: fam 5 bs :: ol 22 ea ec es :: fam 31 dE :: ol 23 ma mc ms :: fam 35 dM :: H) (by
      rw [dropG hs]
      exact (Ent.famC (by exact rm)).trans (by exact ent)) ?_
    refine sx ?_
    refine s_loop (fun (j : Nat × List Pc × List SB) => [(0, .pointer (some ⟨K, 0, none⟩)), (10, .int .i64 i), (11, .slice sa sx0.length sc), (12, .int .i64 j.1)]) (fun j => ol 83 sa sc j.2.1 :: .hb K 69 [c1, c2, .slice ea es.length ec, .slice ma ms.length mc, .slice pa ps.length pc, .int .i64 n] :: ol 45 pa pc ps :: fam 83 dn :: fam 83 (ps.drop (i + 1)) :: fam 5 j.2.2 :: ol 22 ea ec es :: fam 31 dE :: ol 23 ma mc ms :: fam 35 dM :: H)
      (fun j => j.1 ≤ sx0.length ∧ j.2.1.length = sx0.length ∧ (∀ x, x < j.1 → ∃ y, j.2.1[x]? = some y ∧ GkP j.2.2 i y) ∧ (∀ s, s ∈ bs → s ∈ j.2.2)) (fun j => sx0.length - j.1) (0, sx0, bs) ⟨Nat.zero_le _, rfl, fun x h => by omega, fun _ h => h⟩ ?_
    rintro ⟨j, ys, bs2⟩ ⟨hj, hyl, hys, hbb⟩
    simp only at hj hyl hys hbb ⊢
    refine sx ?_
    refine s_if rfl (fun t2 => ?_) (fun t2 => ?_)
    · have t2 : (j : Int) < (sx0.length : Int) := t2
      refine s_kn (φ := ∃ ad, sa = some ad) (fun w hw => own_gA (Sat.ownOf (c' := ol 83 sa sc ys) .hd hw) (by omega)) ?_
      rintro ⟨ad, rfl⟩
      refine sx ?_
      refine s_bsl ([mBt i] : Bs) rfl rfl fun b42 => ?_
      refine sx ?_
      refine s_setA (i := j) (y := (mkP1 b42 (mBt i))) rfl rfl (by exact at_) rfl (by omega) ?_
      refine sx ?_
      refine s_again (j + 1, ys.set j (mkP1 b42 (mBt i)), bs2 ++ [mkB1 b42 (mBt i)]) ⟨by simp only; omega, by simp only [List.length_set]; exact hyl, fun x hx => ?_, fun s hs => List.mem_append_left _ (hbb s hs)⟩ (by simp only; omega) (he := ?_)
      · simp only at hx ⊢
        by_cases h : x = j
        · subst h
          exact ⟨_, List.getElem?_set_self (by omega), mkP1_good⟩
        · obtain ⟨y, h1, h2⟩ := hys x (by omega)
          exact ⟨y, by rw [List.getElem?_set_ne (by omega)]; exact h1, h2.mono (fun s hs => List.mem_append_left _ hs)⟩
      · refine Ent.cons (by exact rm) (Ent.cons (by exact rm) (Ent.cons (by exact rm) (Ent.cons (by exact rm) (Ent.cons (by exact rm) ?_))))
        refine Ent.famS (s := mkB1 b42 (mBt i)) (by exact rm) (by exact rm) ?_
        exact ent
    · have t2 : ¬ (j : Int) < (sx0.length : Int) := t2
      have hya := allG7 (l := ys) (fun x hx => hys x (by omega))
      refine sx ?_
      refine s_again (i + 1, dn ++ [(⟨sa, sc, ys⟩ : SPc)], bs2) ⟨by simp only; omega, ⟨by simp only [List.length_append, List.length_cons, List.length_nil, hdn.1], fun k s hk hks => ?_⟩, fun s hs => hbb s (hb0 s hs)⟩ (by simp only; omega) (he := ?_)
      · simp only at hk ⊢
        by_cases h : k < i
        · obtain ⟨d, d1, d2, d3, d4, d5⟩ := hdn.2 k s h hks
          exact ⟨d, by rw [List.getElem?_append_left (by rw [hdn.1]; exact h)]; exact d1, d2, d3, d4, fun y hy => (d5 y hy).mono hbb⟩
        · obtain rfl : k = i := by omega
          rw [hs] at hks
          cases hks
          refine ⟨⟨sa, sc, ys⟩, by rw [List.getElem?_append_right (by rw [hdn.1]; exact Nat.le_refl _), hdn.1, Nat.sub_self]; rfl, rfl, rfl, hyl, hya⟩
      · refine Ent.cons (by exact rm) ?_
        refine Ent.cons (by exact rm) ?_
        refine Ent.famS (by exact rm) (by exact rm) ?_
        exact ent
  obtain rfl : i = ps.length := by omega
  clear t1 hi
  have hdE := hdE.mono hb0
  have hdM := hdM.mono hb0
  refine sx ?_
  refine s_entL (.hb K 69 [c1, c2, .slice ea es.length ec, .slice ma ms.length mc, .slice pa ps.length pc, .int .i64 n] :: ol 22 ea ec es :: fam 31 dE :: ol 23 ma mc ms :: fam 35 dM :: ol 45 pa pc ps :: fam 83 dn :: fam 5 bs :: H) (by exact entq) ?_
  refine s_call rfl (lsGrow_s hdE hdM hdn hsmE hsmM hsmP (by omega)) ?_
  rintro _ _ ⟨rfl, ga, gc, hE, xE, gb, gd, hM, xM, ge, gf, hP, xP, cs, k1, k2, k3, rfl⟩
  refine ⟨chk_seq, ?_⟩
  refine sx ?_
  refine s_call rfl (lsMarked_s k1 k2 k3 (by omega)) ?_
  rintro _ _ ⟨rfl, rfl⟩
  refine ⟨chk_seq, ?_⟩
  refine sx ?_
  exact s_ret1 rfl rfl ⟨rfl, rfl⟩
end Go.Sx

