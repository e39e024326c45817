/- Part of a proof: Restart of the device. -/
import Derived.Test.YtjbjblhfccddkaaCTJ
namespace Go.Sx
open Go Go.Proofs
set_option maxRecDepth 10000
variable {w0 : World} {H : List Ck}
theorem idx_of : ∀ {l : List Int} {k : Nat} {x : Int}, l.Nodup → l[k]? = some x → l.idxOf x = k
  | [], k, x, _, h => by simp at h
  | y :: l, 0, x, _, h => by
    simp only [List.getElem?_cons_zero, Option.some.injEq] at h
    subst h
    simp
  | y :: l, k + 1, x, hn, h => by
    simp only [List.nodup_cons] at hn
    have hm : l[k]? = some x := by simpa using h
    have hne : ¬ y = x := fun e => hn.1 (e ▸ List.mem_of_getElem? hm)
    rw [List.idxOf_cons, show (y == x) = false by simp [hne], idx_of hn.2 hm]
    rfl
theorem take_no : ∀ {l : List Int} {k : Nat} {x : Int}, l.Nodup → l[k]? = some x → x ∉ l.take k
  | [], k, x, _, h => by simp at h
  | y :: l, 0, x, _, h => by simp
  | y :: l, k + 1, x, hn, h => by
    simp only [List.nodup_cons] at hn
    have hm : l[k]? = some x := by simpa using h
    rw [List.take_succ_cons, List.mem_cons]
    rintro (rfl | h1)
    · exact hn.1 (List.mem_of_getElem? hm)
    · exact take_no hn.2 hm h1
/-- The state of the loop. -/
structure RstI (c : Cd) (N : Nat) (l fs : List Int) (k : Nat) (c2 : Cd) : Prop where
  le : k ≤ l.length
  b : c2.b = c.b
  size : c2.size = c.size
  ok : c2.Ok N
  ad : c2.ad = c.ad.wat (fun m => if m ∈ l.take k then fated c.size (c.ad.at_ m) (fs.getD (l.idxOf m) 0) else c.ad.at_ m)
theorem RstI.pick {c c2 : Cd} {N k : Nat} {l fs : List Int} {x : Int} (h : RstI c N l fs k c2) (hP : c.ad.Pend l) (hx : l[k]? = some x) :
    ∃ (i : Nat) (e : Be), c2.es[i]? = some e ∧ e.n = x ∧ aget c2.kvs x = some (.pointer (some ⟨e.k, 0, none⟩)) ∧ I64 x ∧ e.b.ws ≠ [] ∧
      ∀ b : Bk, b.Ok c.size N → b.ab c.size = fated c.size (e.b.ab c.size) (fs.getD k 0) → RstI c N l fs (k + 1) { c2 with es := c2.es.set i { e with b := b } } := by
  have hnd : l.Nodup := hP.up.imp fun h => by omega
  have hno := take_no hnd hx
  have h1 : c2.ad.at_ x = c.ad.at_ x := by rw [h.ad]; exact if_neg hno
  have hw : (c.ad.at_ x).ws ≠ [] := (hP.iff x).1 (List.mem_of_getElem? hx)
  have hm : x ∈ c2.kvs.map Prod.fst := by
    have hk : c2.kvs.map Prod.fst = c2.es.map Be.n := by simp [Cd.kvs, Be.kv, List.map_map, Function.comp_def]
    rw [hk]
    apply Classical.byContradiction
    intro hm
    rw [← h1] at hw
    exact hw (by rw [show c2.ad.at_ x = _ from atE_no hm])
  obtain ⟨i, e, hi, hen, hag, hat⟩ := be_of h.ok hm
  have hd := h.ok.dom e (List.mem_of_getElem? hi)
  have hnn := h.ok.nn
  refine ⟨i, e, hi, hen, hag, ⟨by omega, by omega⟩, ?_, fun b hb hab => ?_⟩
  · rw [← h1, hat] at hw
    simpa [Bk.ab] using hw
  obtain ⟨o1, o2, o3⟩ := h.ok.upd hi (by rw [h.size]; exact hb)
  have hlt : k < l.length := (List.getElem?_eq_some_iff.1 hx).1
  refine ⟨hlt, h.b, h.size, o1, ?_⟩
  rw [o2, hen, h.size, hab, h.ad]
  simp only [Ad.set, Ad.wat]
  congr 1
  funext m
  have htk : l.take (k + 1) = l.take k ++ [x] := by rw [List.take_add_one, hx]; rfl
  by_cases hmx : m = x
  · subst hmx
    rw [if_pos rfl, if_pos (by rw [htk]; simp), idx_of hnd hx]
    rw [← h1, hat, h.size]
  · rw [if_neg hmx]
    by_cases hmt : m ∈ l.take k
    · rw [if_pos hmt, if_pos (by rw [htk]; simp [hmt])]
    · rw [if_neg hmt, if_neg (by rw [htk]; simp [hmt, hmx])]
theorem RstI.done {c c2 : Cd} {N : Nat} {l fs : List Int} (h : RstI c N l fs l.length c2) : ({ c2 with off := false, armed := 0 } : Cd).ad = c.ad.restart l fs := by
  have h1 := h.ad
  rw [List.take_of_length_le (Nat.le_refl _)] at h1
  have h2 : ({ c2 with off := false, armed := 0 } : Cd).ad = { c2.ad with off := false, armed := 0 } := rfl
  rw [h2, h1]
  rfl
set_option maxHeartbeats 4000000 in
theorem restart_s {c : Cd} {N : Nat} {fa : Option Addr} {fc : Nat} {fs : List Int} (hc : c.Ok N) (hf : RSl w0 H fa fc fs) (hfl : fs.length ≤ 17592186044416) (hN : N ≤ 1099511627776) :
    FnS Try.prog w0 (c.on 0 H) 15 #[.pointer (some ⟨c.b, 0, none⟩), .slice fa fs.length fc] (fun v K =>
      ∃ (c' : Cd) (l : List Int), c'.b = c.b ∧ c'.Ok N ∧ c.ad.Pend l ∧ c'.ad = c.ad.restart l fs ∧ v = .tuple #[] ∧ K = c'.on 0 H) := by
  have hsz := hc.sz
  refine fns_enterD Try.func15 rfl rfl rfl ?_
  refine sx ?_
  refine s_call rfl lock_d ?_
  rintro _ _ ⟨rfl, rfl⟩
  refine ⟨chk_seq, ?_⟩
  refine sx ?_
  refine s_deferF [.pointer (some ⟨c.b, 0, none⟩)] rfl ?_
  refine sx ?_
  refine s_call rfl (pending_s hc hN) ?_
  rintro _ _ ⟨a, cc, l, hP, hl, rfl, rfl⟩
  refine ⟨chk_seq, ?_⟩
  refine sx ?_
  refine s_loop (ι := Nat × Cd) (fun i => [(0, .pointer (some ⟨c.b, 0, none⟩)), (1, .slice fa fs.length fc), (17, .slice a l.length cc), (18, .int .i64 l.length), (19, .int .i64 i.1)])
    (fun i => ol 3 a cc l :: i.2.on 1 H) (fun i => RstI c N l fs i.1 i.2) (fun i => l.length - i.1) (0, c) ⟨Nat.zero_le _, rfl, rfl, hc, by simp [Ad.wat]⟩ ?_
  rintro ⟨k, c2⟩ hI
  have hI : RstI c N l fs k c2 := hI
  have hk := hI.le
  show SC _ _ _ _ _ _ _ (ol 3 a cc l :: c2.on 1 H)
  rw [← hI.b]
  refine sx ?_
  refine s_if rfl (fun h3 => ?_) (fun h3 => ?_)
  rotate_left
  · obtain rfl : k = l.length := by omega
    refine sx ?_
    refine s_entQ (({ c2 with off := false, armed := 0 } : Cd).on 1 H) (by exact ent) ?_
    exact d_ret0 (c := { c2 with off := false, armed := 0 }) rfl ⟨{ c2 with off := false, armed := 0 }, l, rfl, ⟨hI.ok.nodup, hI.ok.dom, hI.ok.bk, ⟨Int.le_refl _, by show (0 : Int) ≤ _; decide⟩, hI.ok.how, hI.ok.sz, hI.ok.nn⟩, hP, hI.done, rfl, rfl⟩
  obtain ⟨x, hxk⟩ : ∃ x, l[k]? = some x := ⟨_, List.getElem?_eq_getElem (by omega)⟩
  obtain ⟨i, e, hi, hen, hag, hx, hws, hstep⟩ := hI.pick hP hxk
  have hb := hI.ok.bk e (List.mem_of_getElem? hi)
  have l1 := hb.few
  have hf3 : RSl w0 (ol 3 a cc l :: c2.on 1 H) fa fc fs := hf.tl.tl.tl.tl
  refine sx ?_
  refine s_cut (fun _ : Unit => [(0, .pointer (some ⟨c2.b, 0, none⟩)), (1, .slice fa fs.length fc), (17, .slice a l.length cc), (18, .int .i64 l.length), (19, .int .i64 k), (5, .int .i64 x), (6, .int .i64 (fs.getD k 0))]) (fun _ => ol 3 a cc l :: c2.on 1 H) (fun _ => True) ?_ fun _ _ => ?_
  · refine s_if rfl (fun h4 => ?_) (fun h4 => ?_)
    · obtain ⟨f, hfk⟩ : ∃ f, fs[k]? = some f := ⟨_, List.getElem?_eq_getElem (by omega)⟩
      refine sx ?_
      refine s_mid () trivial ?_
      rw [List.getD_eq_getElem?_getD, hfk]
      exact ⟨rfl, rfl, rfl, rfl, rfl, rfl, rfl, trivial⟩
    · refine sx ?_
      refine s_mid () trivial ?_
      have h4' : ¬ (k : Int) < fs.length := h4
      rw [List.getD_eq_getElem?_getD, List.getElem?_eq_none (by omega)]
      exact ⟨rfl, rfl, rfl, rfl, rfl, rfl, rfl, trivial⟩
  refine sx ?_
  refine s_lkp c2.kvs rfl rfl (i64_wf hx) ?_
  rw [hag]
  refine s_entL _ (Ent.head (Cd.out hi)) ?_
  obtain ⟨f, hfe⟩ : ∃ f, f = fs.getD k 0 := ⟨_, rfl⟩
  rw [← hfe] at hstep ⊢
  have e0 : (e.b.ab c.size).ws.length = e.b.ws.length := by simp [Bk.ab]
  have way2 : ∀ {w : Bool}, ¬ (1 ≤ f ∧ f ≤ e.b.ws.length) → ¬ f = e.b.ws.length + 1 → RstI c N l fs (k + 1) { c2 with es := c2.es.set i { e with b := ⟨e.b.l, e.b.bad, none, 0, []⟩ } } := fun {w} q1 q2 => by
    refine hstep _ ⟨Nat.zero_le _, hb.nil, by rw [← hI.size]; exact hb.len, fun _ h => by simp at h⟩ ?_
    unfold fated
    rw [e0, if_neg q1, if_neg q2]
    simp [Bk.ab]
  have way3 : ¬ (1 ≤ f ∧ f ≤ e.b.ws.length) → f = e.b.ws.length + 1 → RstI c N l fs (k + 1) { c2 with es := c2.es.set i { e with b := ⟨⟨none, 0, []⟩, true, none, 0, []⟩ } } := fun q1 q2 => by
    refine hstep _ ⟨Nat.zero_le _, fun _ => ⟨rfl, rfl⟩, fun h => absurd rfl h, fun _ h => by simp at h⟩ ?_
    unfold fated
    rw [e0, if_neg q1, if_pos q2]
    simp [Bk.ab]
  have rest : ¬ (1 ≤ f ∧ f ≤ e.b.ws.length) → SC Try.prog Try.f15.ntmps [] Code.skip (fun _ _ _ => True) [] w0 H := fun _ => .mk fun w _ => c_skip (.mk fun _ _ => trivial)
  clear rest
  refine sx ?_
  refine s_lif rfl (fun h4 => ?_) (fun h4 => ?_)
  · refine sx ?_
    refine s_if rfl (fun h5 => ?_) (fun h5 => ?_)
    · obtain ⟨j, rfl⟩ : ∃ j : Nat, f = (j : Int) + 1 := ⟨(f - 1).toNat, by omega⟩
      obtain ⟨s, hs⟩ : ∃ s, e.b.ws[j]? = some s := ⟨_, List.getElem?_eq_getElem (by omega)⟩
      have hsm := List.mem_of_getElem? hs
      have hsl := hb.wlen s hsm
      have hsz2 := hI.ok.sz
      refine s_kn (φ := s.a ≠ none) (fun w hw e0 => ?_) fun ha => ?_
      · have h := (RBy.ent (RBy.hd (E := 5) (H := [])) (stars_mem (f := oSB) hsm) : RBy w0 (stars oSB e.b.ws :: .hb c2.b 74 (c2.cells 1) :: kmp c2.m c2.kvs :: stars oBk (c2.es.eraseIdx i) :: H) s.a s.c s.xs).tl.tl.tl.tl w hw
        have h2 := h.nil e0
        have h3 := h.le
        omega
      have hRs : RSl w0 (ol 3 a cc l :: .hb e.k 82 e.b.cells :: ol 29 e.b.wa e.b.wc e.b.ws :: ob e.b.l.a e.b.l.c e.b.l.xs :: stars oSB e.b.ws :: .hb c2.b 74 (c2.cells 1) :: kmp c2.m c2.kvs :: stars oBk (c2.es.eraseIdx i) :: H) e.b.wa e.b.wc e.b.ws := RSl.hd.tl.tl
      refine sx ?_
      refine s_rw (t := 58) (v' := .int .i64 (j : Int)) rfl (ic (by omega)) ?_
      refine sx ?_
      have hs1 : s.a.isNone = false := by cases h : s.a with
        | none => exact absurd h ha
        | some _ => rfl
      have hR : RstI c N l fs (k + 1) { c2 with es := c2.es.set i { e with b := Bk.barr s } } := by
        refine hstep _ ⟨Nat.zero_le _, fun h => absurd h ha, fun _ => by rw [← hI.size]; exact hsl, fun _ h => by simp [Bk.barr] at h⟩ ?_
        unfold fated
        rw [e0, if_pos ⟨by omega, h5⟩]
        simp [Bk.ab, Bk.barr, hs1, hs]
      refine s_again (k + 1, { c2 with es := c2.es.set i { e with b := Bk.barr s } }) hR (by show l.length - (k + 1) < l.length - k; omega) (he := ?_)
      refine Ent.head (Ent.trans ?_ (Cd.put (b := Bk.barr s) hi))
      refine Ent.head (Ent.tl (Ent.tl (Ent.addNil ?_)))
      refine (stars_get (f := oSB) (i := j) hs).trans ?_
      exact Ent.head (Ent.tl (Ent.addStar Ent.refl))
    · refine sx ?_
      refine s_if rfl (fun h6 => ?_) (fun h6 => ?_)
      · refine sx ?_
        refine s_again (k + 1, { c2 with es := c2.es.set i { e with b := ⟨⟨none, 0, []⟩, true, none, 0, []⟩ } }) (way3 (fun h => h5 h.2) h6) (by show l.length - (k + 1) < l.length - k; omega) (he := ?_)
        refine Ent.head (Ent.trans ?_ (Cd.put (b := ⟨⟨none, 0, []⟩, true, none, 0, []⟩) hi))
        exact Ent.head (Ent.tl (Ent.tl (Ent.tl (Ent.addNil (Ent.addNil (Ent.addStar Ent.refl))))))
      · refine sx ?_
        refine s_again (k + 1, { c2 with es := c2.es.set i { e with b := ⟨e.b.l, e.b.bad, none, 0, []⟩ } }) (way2 (w := true) (fun h => h5 h.2) h6) (by show l.length - (k + 1) < l.length - k; omega) (he := ?_)
        refine Ent.head (Ent.trans ?_ (Cd.put (b := ⟨e.b.l, e.b.bad, none, 0, []⟩) hi))
        exact Ent.head (Ent.tl (Ent.addNil (Ent.head (Ent.tl (Ent.addStar Ent.refl)))))
  · refine sx ?_
    refine s_if rfl (fun h6 => ?_) (fun h6 => ?_)
    · refine sx ?_
      refine s_again (k + 1, { c2 with es := c2.es.set i { e with b := ⟨⟨none, 0, []⟩, true, none, 0, []⟩ } }) (way3 (fun h => h4 h.1) h6) (by show l.length - (k + 1) < l.length - k; omega) (he := ?_)
      refine Ent.head (Ent.trans ?_ (Cd.put (b := ⟨⟨none, 0, []⟩, true, none, 0, []⟩) hi))
      exact Ent.head (Ent.tl (Ent.tl (Ent.tl (Ent.addNil (Ent.addNil (Ent.addStar Ent.refl))))))
    · refine sx ?_
      refine s_again (k + 1, { c2 with es := c2.es.set i { e with b := ⟨e.b.l, e.b.bad, none, 0, []⟩ } }) (way2 (w := true) (fun h => h4 h.1) h6) (by show l.length - (k + 1) < l.length - k; omega) (he := ?_)
      refine Ent.head (Ent.trans ?_ (Cd.put (b := ⟨e.b.l, e.b.bad, none, 0, []⟩) hi))
      exact Ent.head (Ent.tl (Ent.addNil (Ent.head (Ent.tl (Ent.addStar Ent.refl)))))
end Go.Sx
