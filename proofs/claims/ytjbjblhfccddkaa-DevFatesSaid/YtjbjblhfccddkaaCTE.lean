/- Part of a proof: Write of the device. -/
import Derived.Test.YtjbjblhfccddkaaCTD
namespace Go.Sx
open Go Go.Proofs
set_option maxRecDepth 10000
variable {w0 : World} {H : List Ck}
theorem Cd.Ok.cnt {N : Nat} {c : Cd} (h : c.Ok N) (rs ws : Int) : ({ c with rs := rs, ws := ws } : Cd).Ok N := ⟨h.nodup, h.dom, h.bk, h.arm, h.how, h.sz, h.nn⟩
theorem Cd.rbyH {c : Cd} {lk : Int} {a : Option Addr} {k : Nat} {xs : Bs} (h : RBy w0 H a k xs) : RBy w0 (c.on lk H) a k xs := RBy.tl (RBy.tl (RBy.tl h))
set_option maxHeartbeats 2000000 in
/-- Write. -/
theorem write_s {c : Cd} {N : Nat} {n : Int} {a : Option Addr} {k : Nat} {xs : Bs} (hc : c.Ok N) (hn : I64 n) (hN : N ≤ 1099511627776) (hx : RBy w0 H a k xs) (hxl : xs.length ≤ 1099511627776) :
    FnS Try.prog w0 (c.on 0 H) 11 #[.pointer (some ⟨c.b, 0, none⟩), .int .i64 n, .slice a xs.length k] (fun v K =>
      ∃ c' : Cd, c'.b = c.b ∧ c'.Ok (N + 1) ∧ c'.ad = c.ad.write n xs ∧ v = .int .i64 (c.ad.wer n xs.length) ∧ K = c'.on 0 H) := by
  have hsz := hc.sz
  refine fns_enterD Try.func11 rfl rfl rfl ?_
  refine sx ?_
  refine s_call rfl lock_d ?_
  rintro _ _ ⟨rfl, rfl⟩
  refine ⟨chk_seq, ?_⟩
  refine sx ?_
  refine s_deferF [.pointer (some ⟨c.b, 0, none⟩)] rfl ?_
  refine sx ?_
  refine s_call rfl (find_s hc hn) ?_
  rintro _ _ (⟨e0, rfl, rfl⟩ | ⟨e0, es, i, e, hi, hen, hok, had, rfl, rfl⟩)
  · refine ⟨chk_seq, ?_⟩
    refine sx ?_
    refine s_ifn rfl (fun _ => ?_) (fun h => absurd h e0)
    refine sx ?_
    have e1 : c.ad.wer n xs.length = c.ad.err n := if_pos e0
    have e2 : c.ad.write n xs = c.ad := if_pos (.inl e0)
    exact d_ret1 (c := c) rfl rfl ⟨c, rfl, hc.mono (Nat.le_succ N), e2.symm, by rw [e1], rfl⟩
  refine ⟨chk_seq, ?_⟩
  refine sx ?_
  refine s_ifn rfl (fun h1 => ?_) (fun h1 => ?_)
  · refine sx ?_
    have h1' : ¬ xs.length = c.size := fun h => h1 (by show (xs.length : Int) = (c.size : Int); rw [h])
    have e1 : c.ad.wer n xs.length = 11 := by
      unfold Ad.wer
      rw [if_neg (by rw [e0]; simp), if_pos (show xs.length ≠ c.ad.size from h1')]
    have e2 : c.ad.write n xs = c.ad := if_pos (.inr h1')
    exact d_ret1 (c := { c with es := es }) rfl rfl ⟨{ c with es := es }, rfl, hok.mono (Nat.le_succ N), by rw [e2]; exact had, by rw [e1], rfl⟩
  have h1' : xs.length = c.size := by exact_mod_cast h1
  refine sx ?_
  refine s_call rfl (change_s hok) ?_
  rintro _ _ ⟨rfl, rfl⟩
  refine ⟨chk_seq, ?_⟩
  obtain ⟨c1, hc1⟩ : ∃ c1, c1 = ({ c with es := es } : Cd).chg := ⟨_, rfl⟩
  obtain ⟨f1, f2, f3, f4, f5⟩ := Cd.chg_es { c with es := es }
  have g1 : c1.Ok N := by rw [hc1]; exact Cd.chg_ok hok
  have g2 : c1.ad = c.ad.chg := by rw [hc1, Cd.chg_ad, had]
  have g3 : c1.es = es := by rw [hc1]; exact f1
  have g4 : c1.b = c.b := by rw [hc1]; exact f2
  have g5 : c1.size = c.size := by rw [hc1]; exact f3
  rw [← hc1, had]
  have hb := g1.bk e (by rw [g3]; exact List.mem_of_getElem? hi)
  have hi1 : c1.es[i]? = some e := by rw [g3]; exact hi
  have l1 := hb.few
  have e1 : c.ad.wer n xs.length = c.ad.cer := by
    unfold Ad.wer
    rw [if_neg (by rw [e0]; simp), if_neg (show ¬ xs.length ≠ c.ad.size from fun h => h h1')]
  have e2 : c.ad.write n xs = if c.ad.cis = true then c.ad.chg.set n { c.ad.at_ n with ws := (c.ad.at_ n).ws ++ [xs] } else c.ad.chg := if_neg (by rintro (h | h); exact h e0; exact h h1')
  have hat : c.ad.at_ n = e.b.ab c.size := by
    rw [← had, ← hen]; exact atE_of hok.nodup hi
  clear hc1 f1 f2 f3 f4 f5
  refine sx ?_
  refine s_cut (fun c2 : Cd => [(0, .pointer (some ⟨c.b, 0, none⟩)), (8, .int .i64 c.ad.cer)]) (fun c2 => c2.on 1 H) (fun c2 => c2.b = c.b ∧ c2.Ok (N + 1) ∧ c2.ad = c.ad.write n xs) ?_ ?_
  · refine s_cond rfl (fun t1 => ?_) (fun t1 => ?_)
    · refine s_ent _ (Cd.out hi1) ?_
      have hx7 : RBy w0 (.hb e.k 82 e.b.cells :: ol 29 e.b.wa e.b.wc e.b.ws :: ob e.b.l.a e.b.l.c e.b.l.xs :: stars oSB e.b.ws :: .hb c1.b 74 (c1.cells 1) :: kmp c1.m c1.kvs :: stars oBk (c1.es.eraseIdx i) :: H) a k xs := hx.tl.tl.tl.tl.tl.tl.tl
      refine s_drU (.hb e.k 82 e.b.cells :: H) (.one true 0 (.one true 1 (.one true 2 (.one true 3 (.one true 4 (.one true 5 (.one false 6 (.one false 7 (.one false 8 (.one true 9 (.one true 10 .nil))))))))))) (.one false 11 .nil) [11] #[true, true, true, true, true, true, true, true, true, true, true, false] mixed (by kernel_rfl) ?_
      refine sx ?_
      refine s_call rfl (bclone_s hx7 hxl) ?_
      rintro _ _ ⟨s2, k1, k2, k3, rfl, rfl⟩
      refine ⟨chk_held (by exact entq), ?_⟩
      refine sx ?_
      refine s_bsl ([s2] : List SB) rfl rfl fun b1 => ?_
      refine sx ?_
      refine s_app (ys := [s2]) ?_
      intro a1 c1'
      refine sx ?_
      refine s_bar ?_
      refine sx ?_
      have k4 : s2.xs.length = c1.size := by rw [k1, g5]; exact h1'
      have hnb : (⟨e.b.l, e.b.bad, a1, c1', e.b.ws ++ [s2]⟩ : Bk).Ok c1.size (N + 1) := ⟨by simp; exact l1, hb.nil, hb.len, fun s hs => by
        rcases List.mem_append.1 hs with h | h
        · exact hb.wlen s h
        · simp at h; rw [h]; exact k4⟩
      obtain ⟨o1, o2, o3⟩ := (g1.mono (Nat.le_succ N)).upd hi1 hnb
      refine s_mid ({ c1 with es := c1.es.set i { e with b := ⟨e.b.l, e.b.bad, a1, c1', e.b.ws ++ [s2]⟩ } } : Cd) ⟨g4, o1, ?_⟩ (he := ?_)
      · rw [o2, e2, if_pos t1, g2, hen, hat, g5]
        simp only [Bk.ab, List.map_append, List.map_cons, List.map_nil, k1]
      · refine Ent.trans ?_ (Cd.put (c := c1) (b := ⟨e.b.l, e.b.bad, a1, c1', e.b.ws ++ [s2]⟩) hi1)
        refine Ent.cons (by exact rm) (Ent.cons (by exact rm) (Ent.cons (by exact rm) ?_))
        exact Ent.tl (stars_snoc (f := oSB) (s := s2) (F := e.b.ws))
    · refine sx ?_
      refine s_mid c1 ⟨g4, g1.mono (Nat.le_succ N), ?_⟩
      rw [e2, if_neg (by rw [t1]; simp), g2]
  · rintro c2 ⟨q1, q2, q3⟩
    rw [← q1]
    refine sx ?_
    refine s_if rfl (fun h2 => ?_) (fun h2 => ?_)
    · refine sx ?_
      refine s_yS rfl rfl rfl (y_addw rfl rfl) ?_
      refine sx ?_
      refine d_ret1 (c := { c2 with ws := IntKind.u64.wrap (c2.ws + 1) }) rfl rfl ⟨{ c2 with ws := IntKind.u64.wrap (c2.ws + 1) }, rfl, q2.cnt _ _, q3, by rw [e1], rfl⟩
    · refine sx ?_
      exact d_ret1 (c := c2) rfl rfl ⟨c2, rfl, q2, q3, by rw [e1], rfl⟩
end Go.Sx
