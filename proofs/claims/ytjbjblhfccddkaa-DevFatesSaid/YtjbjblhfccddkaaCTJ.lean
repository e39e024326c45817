/- Part of a proof: Flip of the device. -/
import Derived.Test.YtjbjblhfccddkaaCTI
namespace Go.Sx
open Go Go.Proofs
set_option maxRecDepth 10000
variable {w0 : World} {H : List Ck}
theorem flat_same {ws : List SB} {i : Nat} {s s' : SB} (h : ws[i]? = some s) (hv : s'.val = s.val) : flat (ws.set i s') = flat ws := by
  rw [flat_sb, flat_sb, List.map_set, hv, ← List.map_set, set_same h]
theorem set_last {α : Type} {ws : List α} {s s' : α} (h : ws.getLast? = some s) : ws.set (ws.length - 1) s' = ws.dropLast ++ [s'] := by
  obtain ⟨r, rfl⟩ : ∃ r, ws = r ++ [s] := by
    exact List.getLast?_eq_some_iff.1 h
  rw [List.dropLast_concat, List.length_append, List.length_singleton, Nat.add_sub_cancel, List.set_append_right _ _ (Nat.le_refl _), Nat.sub_self, List.set_cons_zero]
abbrev FlipR (c : Cd) (N : Nat) (n at_ : Int) (x : UInt8) (H : List Ck) : Value → List Ck → Prop := fun v K =>
  ∃ c' : Cd, c'.b = c.b ∧ c'.Ok N ∧ c'.ad = c.ad.flip n at_ x ∧ v = .int .i64 (c.ad.fer n at_) ∧ K = c'.on 0 H
set_option maxHeartbeats 2000000 in
theorem flip_s {c : Cd} {N : Nat} {n at_ : Int} {x : UInt8} (hc : c.Ok N) (hn : I64 n) (ha : I64 at_) (hN : N ≤ 1099511627776) :
    FnS Try.prog w0 (c.on 0 H) 23 #[.pointer (some ⟨c.b, 0, none⟩), .int .i64 n, .int .i64 at_, bv x] (FlipR c N n at_ x H) := by
  have hsz := hc.sz
  refine fns_enterD Try.func23 rfl rfl rfl ?_
  refine sx ?_
  refine s_call rfl lock_d ?_
  rintro _ _ ⟨rfl, rfl⟩
  refine ⟨chk_seq, ?_⟩
  refine sx ?_
  refine s_deferF [.pointer (some ⟨c.b, 0, none⟩)] rfl ?_
  refine sx ?_
  refine s_call rfl (find_s hc hn) ?_
  rintro _ _ (⟨e0, rfl, rfl⟩ | ⟨e0, es0, i0, e0', hi0, hen0, hok0, had0, rfl, rfl⟩)
  · refine ⟨chk_seq, ?_⟩
    refine sx ?_
    refine s_ifn rfl (fun _ => ?_) (fun h => absurd h e0)
    refine sx ?_
    have e1 : c.ad.fer n at_ = c.ad.err n := if_pos e0
    have e2 : c.ad.flip n at_ x = c.ad := if_pos (by rw [e1]; exact e0)
    exact d_ret1 (c := c) rfl rfl ⟨c, rfl, hc, e2.symm, by rw [e1], rfl⟩
  refine ⟨chk_seq, ?_⟩
  have f0 : c.ad.fer n at_ = if at_ < 0 ∨ (c.size : Int) ≤ at_ then 11 else c.ad.rerr n := if_neg (by rw [e0]; simp)
  have bad : at_ < 0 ∨ (c.size : Int) ≤ at_ → c.ad.fer n at_ = 11 ∧ c.ad.flip n at_ x = c.ad := fun h => by
    have e1 := f0.trans (if_pos h)
    exact ⟨e1, if_pos (by rw [e1]; decide)⟩
  refine sx ?_
  refine s_lif rfl (fun h1 => ?_) (fun h1 => ?_)
  · refine sx ?_
    have e1 := bad (.inl h1)
    exact d_ret1 (c := { c with es := es0 }) rfl rfl ⟨{ c with es := es0 }, rfl, hok0, had0.trans e1.2.symm, by rw [e1.1], rfl⟩
  refine sx ?_
  refine s_if rfl (fun h2 => ?_) (fun h2 => ?_)
  · refine sx ?_
    have e1 := bad (.inr h2)
    exact d_ret1 (c := { c with es := es0 }) rfl rfl ⟨{ c with es := es0 }, rfl, hok0, had0.trans e1.2.symm, by rw [e1.1], rfl⟩
  have h2' : ¬ (c.size : Int) ≤ at_ := h2
  have f1 : c.ad.fer n at_ = c.ad.rerr n := f0.trans (if_neg (by omega))
  obtain ⟨j, rfl⟩ := Int.eq_ofNat_of_zero_le (show 0 ≤ at_ by omega)
  refine sx ?_
  refine s_call rfl (shows_s hok0 hn hN) ?_
  rintro _ _ (⟨e1, es, hok, had, rfl, rfl⟩ | ⟨e1, es, i, e, s, hi, hen, hsh, hok, had, rfl, rfl⟩)
  · refine ⟨chk_seq, ?_⟩
    rw [had0] at e1
    simp only [had0]
    refine sx ?_
    refine s_if rfl (fun h => absurd h e1) (fun _ => ?_)
    refine sx ?_
    have e2 : c.ad.flip n j x = c.ad := if_pos (by rw [f1]; exact e1)
    exact d_ret1 (c := { c with es := es }) rfl rfl ⟨{ c with es := es }, rfl, hok, (had.trans had0).trans e2.symm, by rw [f1], rfl⟩
  refine ⟨chk_seq, ?_⟩
  rw [had0] at e1
  have had' : ({ c with es := es } : Cd).ad = c.ad := had.trans had0
  have hok' : ({ c with es := es } : Cd).Ok N := hok
  have hb := hok'.bk e (List.mem_of_getElem? hi)
  have hxl : s.xs.length = c.size := hsh.len hb
  have hat : c.ad.at_ n = e.b.ab c.size := by rw [← had', ← hen]; exact atE_of hok'.nodup hi
  have e2 : c.ad.flip n j x = c.ad.set n ((c.ad.at_ n).flip j x) := if_neg (by rw [f1, e1]; simp)
  have hjl : j < s.xs.length := by omega
  refine s_entL _ (Cd.out (c := { c with es := es }) hi) ?_
  rcases hsh with hl | ⟨hw, hbad, rfl, hla⟩
  · have hil : e.b.ws[e.b.ws.length - 1]? = some s := by rw [← List.getLast?_eq_getElem?]; exact hl
    refine s_entL (ob s.a s.c s.xs :: .hb e.k 82 e.b.cells :: ol 29 e.b.wa e.b.wc e.b.ws :: ob e.b.l.a e.b.l.c e.b.l.xs :: stars oSB (e.b.ws.eraseIdx (e.b.ws.length - 1)) :: .hb c.b 74 (({ c with es := es } : Cd).cells 1) :: kmp c.m ({ c with es := es } : Cd).kvs :: stars oBk (es.eraseIdx i) :: H)
      ((Ent.head (Ent.head (Ent.head (stars_get (f := oSB) hil)))).trans (by exact ent)) ?_
    refine sx ?_
    refine s_yS rfl rfl rfl (y_xorb rfl rfl) ?_
    refine sx ?_
    refine s_set1g (i := j) (y := s.xs.getD j 0 ^^^ x) rfl rfl (by exact at_) rfl (by omega) ?_
    refine sx ?_
    have hnl : (xorAt s.xs j x).length = s.xs.length := by simp [xorAt]
    obtain ⟨s', hs'⟩ : ∃ s' : SB, s' = ⟨s.a, s.c, xorAt s.xs j x⟩ := ⟨_, rfl⟩
    have hsv : s'.val = s.val := by rw [hs']; simp only [SB.val, hnl]
    obtain ⟨b', hb'⟩ : ∃ b' : Bk, b' = ⟨e.b.l, e.b.bad, e.b.wa, e.b.wc, e.b.ws.set (e.b.ws.length - 1) s'⟩ := ⟨_, rfl⟩
    have hcells : b'.cells = e.b.cells := by rw [hb']; simp only [Bk.cells, List.length_set]
    have hol : ol 29 b'.wa b'.wc b'.ws = ol 29 e.b.wa e.b.wc e.b.ws := by rw [hb']; simp only [ol, List.length_set, flat_same hil hsv]
    have hnb : b'.Ok c.size N := by
      rw [hb']
      refine ⟨by simp only [List.length_set]; exact hb.few, hb.nil, hb.len, fun q hq => ?_⟩
      rcases List.mem_or_eq_of_mem_set hq with h | rfl
      · exact hb.wlen q h
      · rw [hs']; exact hnl.trans hxl
    obtain ⟨o1, o2, o3⟩ := hok'.upd hi hnb
    refine s_entQ (({ c with es := es.set i { e with b := b' } } : Cd).on 1 H) ?_ ?_
    · refine Ent.trans ?_ (Cd.put (c := { c with es := es }) (b := b') hi)
      rw [hcells, hol, hb']
      refine Ent.cons (by exact rm) (Ent.cons (by exact rm) (Ent.cons (by exact rm) ?_))
      have h := stars_put (f := oSB) (F := e.b.ws) (i := e.b.ws.length - 1) (s := s') (H := .hb c.b 74 (({ c with es := es } : Cd).cells 1) :: kmp c.m ({ c with es := es } : Cd).kvs :: stars oBk (es.eraseIdx i) :: H) (List.getElem?_eq_some_iff.1 hil).1
      rw [hs'] at h ⊢
      exact h
    · refine d_ret1 (c := { c with es := es.set i { e with b := b' } }) rfl rfl ⟨{ c with es := es.set i { e with b := b' } }, rfl, o1, ?_, by rw [f1, e1], rfl⟩
      rw [o2, e2, had', hen, hat, hb']
      congr 1
      have h1 : (e.b.ab c.size).ws.getLast? = some s.xs := by simp [Bk.ab, hl]
      simp only [Ab.flip, h1]
      simp only [Bk.ab, set_last hl, List.map_append, List.map_dropLast, List.map_cons, List.map_nil, hs', Int.toNat_natCast]
  · obtain ⟨ad, had2⟩ : ∃ ad, e.b.l.a = some ad := by
      cases h : e.b.l.a with
      | none => exact absurd h hla
      | some ad => exact ⟨ad, rfl⟩
    refine sx ?_
    refine s_yS rfl rfl rfl (y_xorb rfl rfl) ?_
    refine sx ?_
    refine s_set1g (i := j) (y := e.b.l.xs.getD j 0 ^^^ x) rfl rfl (by exact at_) rfl (by omega) ?_
    refine sx ?_
    have hnl : (xorAt e.b.l.xs j x).length = e.b.l.xs.length := by simp [xorAt]
    obtain ⟨b', hb'⟩ : ∃ b' : Bk, b' = ⟨⟨e.b.l.a, e.b.l.c, xorAt e.b.l.xs j x⟩, e.b.bad, e.b.wa, e.b.wc, e.b.ws⟩ := ⟨_, rfl⟩
    have hcells : b'.cells = e.b.cells := by rw [hb']; simp only [Bk.cells, SB.val, hnl]
    have hnb : b'.Ok c.size N := by
      rw [hb']
      exact ⟨hb.few, fun h => absurd h hla, fun _ => hnl.trans hxl, hb.wlen⟩
    obtain ⟨o1, o2, o3⟩ := hok'.upd hi hnb
    refine s_entQ (({ c with es := es.set i { e with b := b' } } : Cd).on 1 H) ?_ ?_
    · refine Ent.trans ?_ (Cd.put (c := { c with es := es }) (b := b') hi)
      rw [hcells, hb']
      exact Ent.refl
    · refine d_ret1 (c := { c with es := es.set i { e with b := b' } }) rfl rfl ⟨{ c with es := es.set i { e with b := b' } }, rfl, o1, ?_, by rw [f1, e1], rfl⟩
      rw [o2, e2, had', hen, hat, hb']
      congr 1
      have h1 : (e.b.ab c.size).ws.getLast? = none := by simp [Bk.ab, hw]
      simp only [Ab.flip, h1]
      simp [Bk.ab, had2]
end Go.Sx
