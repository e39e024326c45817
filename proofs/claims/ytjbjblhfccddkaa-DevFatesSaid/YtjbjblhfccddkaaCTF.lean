/- Part of a proof: Barrier of the device. -/
import Derived.Test.YtjbjblhfccddkaaCTE
namespace Go.Sx
open Go Go.Proofs
set_option maxRecDepth 10000
variable {w0 : World} {H : List Ck}
def Bk.barr (s : SB) : Bk := ⟨s, false, none, 0, []⟩
theorem Bk.barr_ok {b : Bk} {s : SB} {size N : Nat} (hb : b.Ok size N) (hs : b.ws.getLast? = some s) (ha : s.a ≠ none) : (Bk.barr s).Ok size N :=
  ⟨Nat.zero_le _, fun h => absurd h ha, fun _ => hb.wlen s (List.mem_of_getLast? hs), fun _ h => by simp [Bk.barr] at h⟩
theorem Bk.barr_ab {b : Bk} {s : SB} {size : Nat} (hs : b.ws.getLast? = some s) (ha : s.a ≠ none) : (Bk.barr s).ab size = (b.ab size).barr := by
  have h1 : s.a.isNone = false := by cases h : s.a with
    | none => exact absurd h ha
    | some _ => rfl
  simp [Bk.barr, Bk.ab, Ab.barr, hs, h1]
theorem Ab.barr_nil {b : Ab} (h : b.ws = []) : b.barr = b := by simp [Ab.barr, h]
theorem atE_no {size : Nat} {es : List Be} {m : Int} (h : m ∉ es.map Be.n) : atE size es m = ⟨zeros size, false, []⟩ := by
  have : es.find? (fun e => e.n == m) = none := by
    rw [List.find?_eq_none]
    intro e he h1
    exact h (List.mem_map.2 ⟨e, he, by simpa using h1⟩)
  simp [atE, this]
/-- The state of the loop. -/
structure BarI (c1 : Cd) (N : Nat) (c2 : Cd) (todo : List (Int × Value)) : Prop where
  b : c2.b = c1.b
  m : c2.m = c1.m
  ok : c2.Ok N
  left : ∃ L : List Be, todo = L.map Be.kv ∧ (L.map Be.n).Nodup ∧ (∀ e ∈ L, e ∈ c2.es) ∧ c2.ad = c1.ad.wat (fun m => if m ∈ L.map Be.n then c1.ad.at_ m else (c1.ad.at_ m).barr)
theorem BarI.start {c1 : Cd} {N : Nat} (h : c1.Ok N) : BarI c1 N c1 c1.kvs := by
  refine ⟨rfl, rfl, h, c1.es, rfl, h.nodup, fun _ h => h, ?_⟩
  have : c1.ad.at_ = fun m => if m ∈ c1.es.map Be.n then c1.ad.at_ m else (c1.ad.at_ m).barr := by
    funext m
    split
    · rfl
    · rename_i hm
      rw [Ab.barr_nil]
      rw [show c1.ad.at_ m = _ from atE_no hm]
  exact congrArg c1.ad.wat this
theorem BarI.done {c1 c2 : Cd} {N : Nat} (h : BarI c1 N c2 []) : c2.ad = c1.ad.wat (fun m => (c1.ad.at_ m).barr) := by
  obtain ⟨L, h1, _, _, h4⟩ := h.left
  have : L = [] := by simpa using h1.symm
  subst this
  rw [h4]
  simp
theorem BarI.pick {c1 c2 : Cd} {N : Nat} {A B : List (Int × Value)} {p : Int × Value} (h : BarI c1 N c2 (A ++ p :: B)) : ∃ (i : Nat) (e : Be), c2.es[i]? = some e ∧ p = e.kv ∧
    (∀ b : Bk, b.Ok c2.size N → b.ab c2.size = (e.b.ab c2.size).barr → BarI c1 N { c2 with es := c2.es.set i { e with b := b } } (A ++ B)) := by
  obtain ⟨L, h1, h2, h3, h4⟩ := h.left
  obtain ⟨LA, LC, rfl, rfl, hC⟩ := List.map_eq_append_iff.1 h1.symm
  obtain ⟨e, LB, rfl, rfl, rfl⟩ := List.map_eq_cons_iff.1 hC
  obtain ⟨i, hi⟩ := List.getElem?_of_mem (h3 e (by simp))
  refine ⟨i, e, hi, rfl, fun b hb hab => ?_⟩
  obtain ⟨o1, o2, o3⟩ := h.ok.upd hi hb
  simp only [List.map_append, List.map_cons, List.nodup_append, List.nodup_cons, List.mem_map, List.mem_cons] at h2
  obtain ⟨n1, ⟨n2, n3⟩, n4⟩ := h2
  have hnot : e.n ∉ (LA ++ LB).map Be.n := by
    simp only [List.map_append, List.mem_append, List.mem_map]
    rintro (⟨x, hx, he⟩ | ⟨x, hx, he⟩)
    · exact n4 x.n ⟨x, hx, rfl⟩ e.n (.inl rfl) he
    · exact n2 ⟨x, hx, he⟩
  refine ⟨h.b, h.m, o1, LA ++ LB, by simp, ?_, ?_, ?_⟩
  · simp only [List.map_append, List.nodup_append]
    refine ⟨n1, n3, fun a ha b' hb' => ?_⟩
    obtain ⟨x, hx, rfl⟩ := List.mem_map.1 ha
    obtain ⟨y, hy, rfl⟩ := List.mem_map.1 hb'
    exact n4 x.n ⟨x, hx, rfl⟩ y.n (.inr ⟨y, hy, rfl⟩)
  · intro x hx
    have hxe : x ∈ c2.es := h3 x (by simp only [List.mem_append, List.mem_cons] at hx ⊢; rcases hx with h | h <;> simp [h])
    obtain ⟨j, hj⟩ := List.getElem?_of_mem hxe
    have hne : i ≠ j := by
      rintro rfl
      rw [hi] at hj
      cases hj
      exact hnot (List.mem_map_of_mem hx)
    exact List.mem_of_getElem? (i := j) (by rw [List.getElem?_set_ne hne]; exact hj)
  · have he : (c2.ad.at_ e.n) = e.b.ab c2.size := atE_of h.ok.nodup hi
    rw [o2, hab, ← he, h4]
    simp only [Ad.set, Ad.wat]
    congr 1
    funext m
    by_cases hm : m = e.n
    · subst hm
      rw [if_pos rfl, if_pos (show e.n ∈ (LA ++ e :: LB).map Be.n by simp), if_neg hnot]
    · rw [if_neg hm]
      have : m ∈ (LA ++ e :: LB).map Be.n ↔ m ∈ (LA ++ LB).map Be.n := by
        simp only [List.map_append, List.map_cons, List.mem_append, List.mem_cons]
        constructor
        · rintro (h | h | h)
          · exact .inl h
          · exact absurd h hm
          · exact .inr h
        · rintro (h | h)
          · exact .inl h
          · exact .inr (.inr h)
      by_cases hx : m ∈ (LA ++ LB).map Be.n
      · rw [if_pos (this.2 hx), if_pos hx]
      · rw [if_neg (fun h => hx (this.1 h)), if_neg hx]
theorem bk_out {es : List Be} {i : Nat} {e : Be} (hi : es[i]? = some e) : Ent (stars oBk es :: H) (.hb e.k 82 e.b.cells :: ol 29 e.b.wa e.b.wc e.b.ws :: ob e.b.l.a e.b.l.c e.b.l.xs :: stars oSB e.b.ws :: stars oBk (es.eraseIdx i) :: H) := stars_get hi
theorem bk_put {es : List Be} {i : Nat} {e : Be} {b : Bk} (hi : es[i]? = some e) : Ent (.hb e.k 82 b.cells :: ol 29 b.wa b.wc b.ws :: ob b.l.a b.l.c b.l.xs :: stars oSB b.ws :: stars oBk (es.eraseIdx i) :: H) (stars oBk (es.set i { e with b := b }) :: H) :=
  stars_put (f := oBk) (s := { e with b := b }) (List.getElem?_eq_some_iff.1 hi).1
set_option maxHeartbeats 2000000 in
/-- Barrier. -/
theorem barrier_s {c : Cd} {N : Nat} (hc : c.Ok N) (hN : N ≤ 1099511627776) :
    FnS Try.prog w0 (c.on 0 H) 13 #[.pointer (some ⟨c.b, 0, none⟩)] (fun v K =>
      ∃ c' : Cd, c'.b = c.b ∧ c'.Ok N ∧ c'.ad = c.ad.barrier ∧ v = .int .i64 c.ad.ber ∧ K = c'.on 0 H) := by
  have hsz := hc.sz
  refine fns_enterD Try.func13 rfl rfl rfl ?_
  refine sx ?_
  refine s_call rfl lock_d ?_
  rintro _ _ ⟨rfl, rfl⟩
  refine ⟨chk_seq, ?_⟩
  refine sx ?_
  refine s_deferF [.pointer (some ⟨c.b, 0, none⟩)] rfl ?_
  refine sx ?_
  refine s_cond rfl (fun t1 => ?_) (fun t1 => ?_)
  · refine sx ?_
    have e1 : c.ad.ber = 12 := if_pos t1
    have e2 : c.ad.barrier = c.ad := if_pos t1
    exact d_ret1 (c := c) rfl rfl ⟨c, rfl, hc, e2.symm, by rw [e1], rfl⟩
  have e1 : c.ad.ber = c.ad.cer := if_neg (by rw [show c.ad.off = false from t1]; simp)
  have e2 : c.ad.barrier = if c.ad.cis = true then c.ad.chg.wat (fun m => (c.ad.chg.at_ m).barr) else c.ad.chg := if_neg (by rw [show c.ad.off = false from t1]; simp)
  refine sx ?_
  refine s_call rfl (change_s hc) ?_
  rintro _ _ ⟨rfl, rfl⟩
  refine ⟨chk_seq, ?_⟩
  obtain ⟨c1, hc1⟩ : ∃ c1, c1 = c.chg := ⟨_, rfl⟩
  obtain ⟨f1, f2, f3, f4, f5⟩ := Cd.chg_es c
  have g1 : c1.Ok N := by rw [hc1]; exact Cd.chg_ok hc
  have g2 : c1.ad = c.ad.chg := by rw [hc1, Cd.chg_ad]
  have g3 : c1.es = c.es := by rw [hc1]; exact f1
  have g4 : c1.b = c.b := by rw [hc1]; exact f2
  have g5 : c1.size = c.size := by rw [hc1]; exact f3
  rw [← hc1]
  clear hc1 f1 f2 f3 f4 f5
  refine sx ?_
  refine s_cond rfl (fun t2 => ?_) (fun t2 => ?_)
  rotate_left
  · rw [← g4]
    refine sx ?_
    exact d_ret1 (c := c1) rfl rfl ⟨c1, rfl, g1, by rw [e2, if_neg (by rw [t2]; simp), g2], by rw [e1], rfl⟩
  rw [← g4]
  refine sx ?_
  refine s_mrange (r := c1.m) (kvs := c1.kvs) rfl (by exact rmq) ?_
  intro r
  refine sx ?_
  refine s_loop (ι := Cd × List (Int × Value) × Option (Int × Value)) (fun _ => [(0, .pointer (some ⟨c1.b, 0, none⟩)), (4, .int .i64 c.ad.cer), (29, .pointer (some ⟨r, 0, none⟩))])
    (fun i => mit r i.1.m i.1.kvs i.2.1 i.2.2 :: .hb i.1.b 74 (i.1.cells 1) :: stars oBk i.1.es :: H) (fun i => BarI c1 N i.1 i.2.1) (fun i => i.2.1.length) (c1, c1.kvs, none) (BarI.start g1) ?_
  rintro ⟨c2, todo, cur⟩ hI
  have hI : BarI c1 N c2 todo := hI
  show SC _ _ _ _ _ _ _ (mit r c2.m c2.kvs todo cur :: .hb c2.b 74 (c2.cells 1) :: stars oBk c2.es :: H)
  refine sx ?_
  refine s_mnext rfl Rm.hd ?_ ?_
  · rintro rfl
    rw [← hI.b]
    refine sx ?_
    refine s_entQ (c2.on 1 H) (Ent.itMap.trans (Ent.perm (.swap _ _ _))) ?_
    refine d_ret1 (c := c2) rfl rfl ⟨c2, rfl, hI.ok, ?_, by rw [e1], rfl⟩
    rw [hI.done, e2, if_pos t2, g2]
  · rintro A p B rfl
    obtain ⟨i, e, hi, rfl, hstep⟩ := hI.pick
    refine sx ?_
    refine s_mentry rfl Rm.hd ?_
    refine s_entL _ (Ent.head (Ent.head (bk_out hi))) ?_
    have hb := hI.ok.bk e (List.mem_of_getElem? hi)
    have l1 := hb.few
    refine sx ?_
    refine s_if rfl (fun h1 => ?_) (fun h1 => ?_)
    · obtain ⟨s, hs⟩ : ∃ s, e.b.ws[e.b.ws.length - 1]? = some s := ⟨_, List.getElem?_eq_getElem (by omega)⟩
      have hl : e.b.ws.getLast? = some s := by rw [List.getLast?_eq_getElem?]; exact hs
      have hRs : RSl w0 (mit r c2.m c2.kvs (A ++ B) (some e.kv) :: .hb c2.b 74 (c2.cells 1) :: .hb e.k 82 e.b.cells :: ol 29 e.b.wa e.b.wc e.b.ws :: ob e.b.l.a e.b.l.c e.b.l.xs :: stars oSB e.b.ws :: stars oBk (c2.es.eraseIdx i) :: H) e.b.wa e.b.wc e.b.ws := RSl.hd.tl.tl.tl
      have hRb : RBy w0 (mit r c2.m c2.kvs (A ++ B) (some e.kv) :: .hb c2.b 74 (c2.cells 1) :: .hb e.k 82 e.b.cells :: ol 29 e.b.wa e.b.wc e.b.ws :: ob e.b.l.a e.b.l.c e.b.l.xs :: stars oSB e.b.ws :: stars oBk (c2.es.eraseIdx i) :: H) s.a s.c s.xs := RBy.tl (RBy.tl (Sh.rby (.inl hl)))
      have hsl := hb.wlen s (List.mem_of_getLast? hl)
      have hsz2 := hI.ok.sz
      refine s_kn (φ := s.a ≠ none) (fun w hw e0 => ?_) fun ha => ?_
      · have h := hRb w hw
        have h2 := h.nil e0
        have h3 := h.le
        omega
      refine sx ?_
      refine s_again ({ c2 with es := c2.es.set i { e with b := Bk.barr s } }, A ++ B, some e.kv) (hstep _ (Bk.barr_ok hb hl ha) (Bk.barr_ab hl ha)) (by simp) (he := ?_)
      show Ent _ (mit r c2.m ((c2.es.set i { e with b := Bk.barr s }).map Be.kv) (A ++ B) (some e.kv) :: .hb c2.b 74 (c2.cells 1) :: stars oBk (c2.es.set i { e with b := Bk.barr s }) :: H)
      rw [kvs_set (e' := { e with b := Bk.barr s }) hi rfl rfl]
      refine Ent.head (Ent.head (Ent.trans ?_ (bk_put (b := Bk.barr s) hi)))
      refine Ent.head (Ent.tl (Ent.tl (Ent.addNil ?_)))
      refine (stars_get (f := oSB) (i := e.b.ws.length - 1) hs).trans ?_
      exact Ent.head (Ent.tl (Ent.addStar Ent.refl))
    · have hw : e.b.ws = [] := List.eq_nil_of_length_eq_zero (by omega)
      refine sx ?_
      refine s_again ({ c2 with es := c2.es.set i { e with b := e.b } }, A ++ B, some e.kv) (hstep e.b hb (Ab.barr_nil (by simp [Bk.ab, hw])).symm) (by simp) (he := ?_)
      show Ent _ (mit r c2.m ((c2.es.set i { e with b := e.b }).map Be.kv) (A ++ B) (some e.kv) :: .hb c2.b 74 (c2.cells 1) :: stars oBk (c2.es.set i { e with b := e.b }) :: H)
      rw [kvs_set (e' := { e with b := e.b }) hi rfl rfl]
      exact Ent.head (Ent.head (bk_put hi))
end Go.Sx
