/- The law MsgForm, walked. -/
import Derived.Test.YtimakbpghggdfaaCGM
import Derived.Test.YtimakbpghggdfaaCGP
namespace Go.Sx
open Go Go.Proofs
set_option maxRecDepth 10000
variable {w0 : World} {H : List Ck}
/-- What is read of a piece. -/
structure RPc (w0 : World) (H : List Ck) (p : Pc) : Prop where
  key : RBy w0 H p.ka p.kc p.key
  v : RBy w0 H p.va p.vc p.v
  g : RRg w0 H p.g
theorem RPc.tl {p : Pc} {d : Ck} (h : RPc w0 H p) : RPc w0 (d :: H) p := ⟨h.key.tl, h.v.tl, h.g.tl⟩
theorem RPc.ent {p : Pc} {H' : List Ck} (h : RPc w0 H' p) (e : Ent H H') : RPc w0 H p := ⟨h.key.ent e, h.v.ent e, ⟨h.g.lo.ent e, h.g.hi.ent e⟩⟩
theorem RPc.oP {p : Pc} : RPc w0 (oP p ++ H) p := ⟨RBy.hd, RBy.hd.tl, ⟨RBy.hd.tl.tl, RBy.hd.tl.tl.tl⟩⟩
theorem RPc.st {ps : List Pc} {p : Pc} (h : p ∈ ps) : RPc w0 (stars Go.Sx.oP ps :: H) p := (RPc.oP (H := [])).ent (by rw [List.append_nil]; exact stars_mem h)
theorem RcA.slgo {α : Type} {_i : Cel α} {sz o n : Nat} {a : Option Addr} {c : Nat} {xs : List α} (h : RSl w0 H a c xs) {i : Nat} {x : α} (hx : xs[i]? = some x) (hz : sz = Cel.sz α) : RcA w0 H (((Sx.gA a).add (i * sz)).add o) (((Cel.f x).drop o).take n) := fun w hs j v hv => by
  have h1 := RcA.slg h hx hz w hs
  rw [add_add]
  refine h1 (o + j) v ?_
  rw [List.getElem?_take] at hv
  split at hv
  · rwa [List.getElem?_drop] at hv
  · cases hv
theorem y_ldG {P : Program} {l : List (Nat × Value)} {d : Option Tmp} {ty : TypeId} {pos : String} {af : Array Edge} {g : Option (Nat × Bool)} {x : Operand} {T : TypeId} [h : AgT P T 3] {a : Option Addr} {c i : Nat} {ps : List Pc} {p : Pc} (hx : ev l x = some (.pointer (some (((Sx.gA a).add (i * 6)).add 3)))) (hs : RSl w0 H a c ps) (hp : ps[i]? = some p) :
    Y P (Sat w0 H) ⟨d, .load T x, ty, pos, af, g⟩ l (.agg p.g.cells.toArray) := y_ldA hx (RcA.slgo (n := 3) hs hp rfl) rfl
structure OfI where
  i : Nat
  va : Option Addr
  vc : Nat
set_option maxHeartbeats 2000000 in
theorem of_s {a ka : Option Addr} {c kc : Nat} {ps : List Pc} {key : Bs} (hx : RSl w0 H a c ps) (hp : ∀ p ∈ ps, RPc w0 H p) (hk : RBy w0 H ka kc key) :
    FnS Try.prog w0 H 11 #[.slice a ps.length c, .slice ka key.length kc] (fun v H' => ∃ va vc, v = .tuple #[.int .i64 ((ofP (ps.map Pc.d) key).1 : Nat), .bool (ofP (ps.map Pc.d) key).2.isSome, .slice va ((ofP (ps.map Pc.d) key).2.getD []).length vc] ∧ RBy w0 H va vc ((ofP (ps.map Pc.d) key).2.getD []) ∧ H' = H) := by
  refine fns_enter Try.func11 rfl rfl rfl ?_
  refine s_kn (Kn.sl hx) fun l1 => ?_
  simp only [maxLen] at l1
  refine sx ?_
  refine s_loop (fun q : OfI => [(0, .slice a ps.length c), (1, .slice ka key.length kc), (7, .int .i64 ((ofP ((ps.map Pc.d).take q.i) key).1 : Nat)), (8, .bool (ofP ((ps.map Pc.d).take q.i) key).2.isSome), (9, .slice q.va ((ofP ((ps.map Pc.d).take q.i) key).2.getD []).length q.vc), (10, .int .i64 q.i)]) (fun _ => H) (fun q => q.i ≤ ps.length ∧ RBy w0 H q.va q.vc ((ofP ((ps.map Pc.d).take q.i) key).2.getD [])) (fun q => ps.length - q.i) ⟨0, none, 0⟩ ⟨Nat.zero_le _, RBy.nil⟩ ?_
  rintro ⟨i, va, vc⟩ ⟨hi, hr⟩
  simp only at hi hr ⊢
  refine sx ?_
  refine s_if rfl (fun t1 => ?_) (fun t1 => ?_)
  · obtain ⟨p, hpi⟩ := get_lt ps i (by omega)
    have hpr := hp p (List.mem_of_getElem? hpi)
    have hsn := ofP_snoc ((ps.map Pc.d).take i) p.d key
    rw [← snocT (get_map (f := Pc.d) hpi)] at hsn
    have hle := ofP_le ((ps.map Pc.d).take i) key
    rw [List.length_take, List.length_map] at hle
    have hstep : ∀ o, spP p.d key = o → ofP ((ps.map Pc.d).take (i + 1)) key = match o with
      | some (some v) => ((ofP ((ps.map Pc.d).take i) key).1 + 1, some v)
      | some none => ((ofP ((ps.map Pc.d).take i) key).1 + 1, (ofP ((ps.map Pc.d).take i) key).2)
      | none => ofP ((ps.map Pc.d).take i) key := fun o ho => by rw [hsn, ofStep, ho]; cases o with | none => rfl | some v => cases v <;> rfl
    clear hsn
    have hkr := hpr.key
    have hvr := hpr.v
    have hgr := hpr.g
    generalize ofP ((ps.map Pc.d).take i) key = s at hr hstep hle ⊢
    obtain ⟨n, o⟩ := s
    simp only at hr hstep hle ⊢
    refine sx ?_
    cases hput : p.put
    · refine sx ?_
      refine s_yS rfl rfl rfl (y_ldG rfl (by exact rsl) hpi) ?_
      refine sx ?_
      refine s_callV rfl (ohas_s (r := p.g) (key := key) hgr hk) ?_
      refine sx ?_
      refine s_rw (t := 53) (v' := .bool true) rfl (by rw [hput]; rfl) ?_
      refine sx ?_
      refine s_cond rfl (fun t3 => ?_) (fun t3 => ?_)
      · have e := hstep (some none) (by unfold spP; rw [if_neg (by simp [hput]), if_pos t3])
        simp only at e
        refine sx ?_
        refine s_again ⟨i + 1, va, vc⟩ ⟨by simp only; omega, by simp only; rw [e]; exact hr⟩ (by simp only; omega) (hs := by simp only; rw [e]; repeat (first | exact trivial | refine And.intro (by first | exact rfl | exact congrArg some (ci (by omega))) ?_))
      · have e := hstep none (by unfold spP; rw [if_neg (by simp [hput]), if_neg (by rw [t3]; decide)])
        simp only at e
        refine sx ?_
        refine s_again ⟨i + 1, va, vc⟩ ⟨by simp only; omega, by simp only; rw [e]; exact hr⟩ (by simp only; omega) (hs := by simp only; rw [e]; repeat (first | exact trivial | refine And.intro (by first | exact rfl | exact congrArg some (ci (by omega))) ?_))
    · refine sx ?_
      refine s_callV rfl (compare_s hkr hk) ?_
      refine sx ?_
      refine s_if rfl (fun t2 => ?_) (fun t2 => ?_)
      · have e := hstep (some (some p.v)) (by unfold spP; rw [if_pos hput, if_pos ((cmp_eq _ _).1 t2)])
        simp only at e
        refine sx ?_
        refine s_yS rfl rfl rfl (y_ldG rfl (by exact rsl) hpi) ?_
        refine sx ?_
        refine s_callV rfl (ohas_s (r := p.g) (key := key) hgr hk) ?_
        refine sx ?_
        refine s_rw (t := 53) (v' := .bool false) rfl (by rw [hput]; rfl) ?_
        refine sx ?_
        refine s_again ⟨i + 1, p.va, p.vc⟩ ⟨by simp only; omega, by simp only; rw [e]; exact hvr⟩ (by simp only; omega) (hs := by simp only; rw [e]; repeat (first | exact trivial | refine And.intro (by first | exact rfl | exact congrArg some (ci (by omega))) ?_))
      · have e := hstep none (by unfold spP; rw [if_pos hput, if_neg (fun g => t2 ((cmp_eq _ _).2 g))])
        simp only at e
        refine sx ?_
        refine s_yS rfl rfl rfl (y_ldG rfl (by exact rsl) hpi) ?_
        refine sx ?_
        refine s_callV rfl (ohas_s (r := p.g) (key := key) hgr hk) ?_
        refine sx ?_
        refine s_rw (t := 53) (v' := .bool false) rfl (by rw [hput]; rfl) ?_
        refine sx ?_
        refine s_again ⟨i + 1, va, vc⟩ ⟨by simp only; omega, by simp only; rw [e]; exact hr⟩ (by simp only; omega) (hs := by simp only; rw [e]; repeat (first | exact trivial | refine And.intro (by first | exact rfl | exact congrArg some (ci (by omega))) ?_))
  · obtain rfl : i = ps.length := by omega
    rw [List.take_of_length_le (by simp)] at hr ⊢
    refine sx ?_
    exact s_ret3 rfl rfl rfl rfl ⟨va, vc, rfl, hr, rfl⟩
structure FoI where
  i : Nat
  a : Option Addr
  c : Nat
  ks : List SB
  L : List Ck
structure FeI where
  i : Nat
  a : Option Addr
  c : Nat
  xs : Bs
  M : List Ck
set_option maxHeartbeats 4000000 in
theorem lform_s {a ka : Option Addr} {c kc : Nat} {ms : List Mg} {key : Bs} (hx : RMs w0 H a c ms) (hk : RBy w0 H ka kc key) (hz : ∀ m ∈ ms, m.lo.length ≤ 140737488355327 ∧ m.hi.length ≤ 140737488355327 ∧ m.v.length ≤ 140737488355327) :
    FnV Try.prog w0 H 4 #[.slice a ms.length c, .slice ka key.length kc] (.bool true) := by
  refine fns_enter Try.func4 rfl rfl rfl ?_
  have hsl := hx.sl
  have hz' : ∀ m ∈ ms, m.lo.length ≤ 140737488355327 ∧ m.hi.length ≤ 140737488355328 ∧ m.v.length ≤ 140737488355328 := fun m hm => ⟨(hz m hm).1, by have := (hz m hm).2.1; omega, by have := (hz m hm).2.2; omega⟩
  refine s_kn (Kn.sl hsl) fun l1 => ?_
  simp only [maxLen] at l1
  refine sx ?_
  refine s_callV rfl lawake_s ?_
  refine sx ?_
  refine s_call rfl (lweights_s (ms := ms) (by exact rms) (fun m hm => ⟨by have := (hz m hm).1; omega, (hz' m hm).2⟩)) ?_
  rintro _ H1 ⟨x, rfl, hx0, hx1, e1⟩
  obtain rfl : H = H1 := e1.symm
  refine ⟨chk_seq, ?_⟩
  refine sx ?_
  refine s_if rfl (fun t1 => ?_) (fun t1 => ?_)
  · refine sx ?_
    exact s_ret1 rfl rfl ⟨rfl, rfl⟩
  have hsum := hx1 (by omega)
  have hln := sumM_len (ms.map Mg.d)
  rw [List.length_map] at hln
  refine sx ?_
  refine s_call rfl (mmeaning_s (ms := ms) (by exact rms) (by omega) hz') ?_
  rintro _ _ ⟨pa, pc, ps, rfl, hmn, rfl⟩
  refine ⟨chk_seq, ?_⟩
  refine sx ?_
  refine s_bsl [(⟨ka, kc, key⟩ : SB)] rfl rfl fun b29 => ?_
  refine sx ?_
  have hps : RSl w0 (ol 41 pa pc ps :: stars oP ps :: H) pa pc ps := RSl.hd
  refine s_kn (Kn.ent (H' := ol 41 pa pc ps :: stars oP ps :: H) (Kn.sl hps) (by exact ent)) fun l2 => ?_
  simp only [maxLen] at l2
  refine s_loop (fun q : FoI => [(0, .slice a ms.length c), (1, .slice ka key.length kc), (5, .bool true), (6, .slice pa ps.length pc), (7, .slice q.a q.ks.length q.c), (8, .int .i64 q.i)]) (fun q => ol 24 q.a q.c q.ks :: .star q.L :: ol 41 pa pc ps :: stars oP ps :: H) (fun q => q.i ≤ ms.length ∧ q.ks.length ≤ 1 + 4 * q.i ∧ ∀ k ∈ q.ks, RBy w0 (.star q.L :: H) k.a k.c k.xs) (fun q => ms.length - q.i) ⟨0, some ⟨b29, 0, none⟩, 1, [⟨ka, kc, key⟩], []⟩ ⟨Nat.zero_le _, by simp, fun k h => by rw [List.mem_singleton.1 h]; exact hk.tl⟩ ?_ (he := ?_)
  · rintro ⟨i, ya, yc, ks, L⟩ ⟨g1, g2, g3⟩
    simp only at g1 g2 g3 ⊢
    refine sx ?_
    refine s_if rfl (fun t2 => ?_) (fun t2 => ?_)
    · obtain ⟨m, hm⟩ := get_lt ms i (by omega)
      obtain ⟨r1, r2, r3⟩ := hx.el m (List.mem_of_getElem? hm)
      obtain ⟨z1, z2, z3⟩ := hz m (List.mem_of_getElem? hm)
      refine sx ?_; refine s_drR (ol 24 ya yc ks) (by exact rm) (.one true 0 (.one true 1 (.one true 2 (.one true 3 (.one true 4 (.one true 5 (.one true 6 (.one true 7 (.one true 8 (.one true 9 (.one true 10 (.one true 11 (.one true 12 (.one true 13 (.one true 14 (.one true 15 (.one true 17 (.one true 18 (.one true 19 (.one true 20 (.one true 21 (.one false 16 (.one false 22 (.one false 23 (.one false 24 (.one true 25 .nil)))))))))))))))))))))))))) mixed (by kernel_rfl) ?_; refine sx ?_
      refine s_call rfl (onext_s (xs := m.lo) (by exact rby) z1) ?_
      rintro _ _ ⟨na, nc, rfl, rfl⟩
      refine ⟨chk_held (by exact ent), ?_⟩
      refine sx ?_
      refine s_call rfl (onext_s (xs := m.hi) (by exact rby) z2) ?_
      rintro _ _ ⟨oa, oc, rfl, rfl⟩
      refine ⟨chk_held (by exact ent), ?_⟩
      refine sx ?_
      refine s_bsl [(⟨m.la, m.lc, m.lo⟩ : SB), ⟨m.ha, m.hc, m.hi⟩, ⟨na, nc, m.lo ++ [0]⟩, ⟨oa, oc, m.hi ++ [0]⟩] rfl rfl fun b59 => ?_
      refine s_app (xs := ks) (ys := [(⟨m.la, m.lc, m.lo⟩ : SB), ⟨m.ha, m.hc, m.hi⟩, ⟨na, nc, m.lo ++ [0]⟩, ⟨oa, oc, m.hi ++ [0]⟩]) ?_ (hby := by simp only [List.length_cons, List.length_nil]; omega)
      intro a4 c4
      refine sx ?_
      refine s_again ⟨i + 1, a4, c4, ks ++ [(⟨m.la, m.lc, m.lo⟩ : SB), ⟨m.ha, m.hc, m.hi⟩, ⟨na, nc, m.lo ++ [0]⟩, ⟨oa, oc, m.hi ++ [0]⟩], ob oa oc (m.hi ++ [0]) :: ob na nc (m.lo ++ [0]) :: L⟩ ⟨by simp only; omega, by simp only [List.length_append, List.length_cons, List.length_nil]; omega, fun k hk => ?_⟩ (by simp only; omega) (he := ?_)
      · have key : ∀ k ∈ ks ++ [(⟨m.la, m.lc, m.lo⟩ : SB), ⟨m.ha, m.hc, m.hi⟩, ⟨na, nc, m.lo ++ [0]⟩, ⟨oa, oc, m.hi ++ [0]⟩], RBy w0 (ob oa oc (m.hi ++ [0]) :: ob na nc (m.lo ++ [0]) :: .star L :: H) k.a k.c k.xs := fun k hk => by
          rcases List.mem_append.1 hk with hk | hk
          · exact (g3 k hk).tl.tl
          · simp only [List.mem_cons, List.not_mem_nil, or_false] at hk
            rcases hk with rfl | rfl | rfl | rfl
            · exact r1.tl.tl.tl
            · exact r2.tl.tl.tl
            · exact RBy.hd.tl
            · exact RBy.hd
        exact (key k hk).ent (Ent.open (Ent.head (Ent.head (Ent.star Ent.refl))))
      · exact Ent.trans (H' := ol 24 a4 c4 (ks ++ [(⟨m.la, m.lc, m.lo⟩ : SB), ⟨m.ha, m.hc, m.hi⟩, ⟨na, nc, m.lo ++ [0]⟩, ⟨oa, oc, m.hi ++ [0]⟩]) :: ob oa oc (m.hi ++ [0]) :: ob na nc (m.lo ++ [0]) :: .star L :: ol 41 pa pc ps :: stars oP ps :: H) (by exact entq) (Ent.head (Ent.star (Ent.head (Ent.head (Ent.open Ent.refl)))))
    · obtain rfl : i = ms.length := by omega
      refine sx ?_
      have hks : RSl w0 (ol 24 ya yc ks :: .star L :: ol 41 pa pc ps :: stars oP ps :: H) ya yc ks := RSl.hd
      refine s_loop (fun j : Nat => [(0, .slice a ms.length c), (5, .bool true), (6, .slice pa ps.length pc), (7, .slice ya ks.length yc), (9, .int .i64 j)]) (fun _ => ol 24 ya yc ks :: .star L :: ol 41 pa pc ps :: stars oP ps :: H) (fun j => j ≤ ks.length) (fun j => ks.length - j) 0 (Nat.zero_le _) ?_
      intro j hj
      refine sx ?_
      refine s_if rfl (fun t3 => ?_) (fun t3 => ?_)
      · obtain ⟨k, hkj⟩ := get_lt ks j (by omega)
        have hkb : RBy w0 (ol 24 ya yc ks :: .star L :: ol 41 pa pc ps :: stars oP ps :: H) k.a k.c k.xs := (g3 k (List.mem_of_getElem? hkj)).ent (Ent.tl (Ent.head (Ent.tl (Ent.tl Ent.refl))))
        have hof := of_mean (key := k.xs) hmn
        refine sx ?_
        refine s_call rfl (mget_s (ms := ms) (key := k.xs) (by exact rms) hkb (fun m hm => ⟨(hz m hm).1, (hz' m hm).2.2⟩)) ?_
        rintro _ _ ⟨va, vc, rfl, rfl⟩
        refine ⟨chk_seq, ?_⟩
        generalize getM (ms.map Mg.d) k.xs = G at hof ⊢
        have hkb2 : RBy w0 (ob va vc (valM G) :: ol 24 ya yc ks :: .star L :: ol 41 pa pc ps :: stars oP ps :: H) k.a k.c k.xs := hkb.tl
        have hps2 : RSl w0 (ob va vc (valM G) :: ol 24 ya yc ks :: .star L :: ol 41 pa pc ps :: stars oP ps :: H) pa pc ps := hps.tl.tl.tl
        have hpp : ∀ p ∈ ps, RPc w0 (ob va vc (valM G) :: ol 24 ya yc ks :: .star L :: ol 41 pa pc ps :: stars oP ps :: H) p := fun p hp => (RPc.st hp).tl.tl.tl.tl
        refine sx ?_
        refine s_call rfl (of_s (ps := ps) (key := k.xs) hps2 hpp hkb2) ?_
        rintro _ _ ⟨wa, wc, rfl, hwr, rfl⟩
        refine ⟨chk_seq, ?_⟩
        rw [hof] at hwr ⊢
        rcases G with _ | (_ | v)
        · refine sx ?_
          exact s_again (j + 1) (by omega) (by omega)
        · refine sx ?_
          exact s_again (j + 1) (by omega) (by omega)
        · refine sx ?_
          refine s_ifn rfl (fun t4 => absurd rfl t4) (fun t4 => ?_)
          refine sx ?_
          exact s_again (j + 1) (by omega) (by omega)
      · refine sx ?_
        refine s_bsl ([] : Bs) rfl rfl fun b107 => ?_
        refine sx ?_
        refine s_loop (fun q : FeI => [(5, .bool true), (6, .slice pa ps.length pc), (16, .slice q.a q.xs.length q.c), (17, .int .i64 q.i)]) (fun q => .star q.M :: ol 41 pa pc ps :: stars oP ps :: H) (fun q => q.i ≤ ps.length ∧ RBy w0 (.star q.M :: ol 41 pa pc ps :: stars oP ps :: H) q.a q.c q.xs ∧ ∀ p, 0 < q.i → ps[q.i - 1]? = some p → q.xs = endP p.d) (fun q => ps.length - q.i) ⟨0, some ⟨b107, 0, none⟩, 0, [], [ob (some ⟨b107, 0, none⟩) 0 []]⟩ ⟨Nat.zero_le _, RBy.ent (H' := ob (some ⟨b107, 0, none⟩) 0 [] :: ol 41 pa pc ps :: stars oP ps :: H) RBy.hd (Ent.open Ent.refl), fun p h => absurd h (by simp)⟩ ?_ (he := ?_)
        · rintro ⟨i, ea, ec, es, M⟩ ⟨h1, h2, h3⟩
          simp only at h1 h2 h3 ⊢
          refine sx ?_
          refine s_if rfl (fun t5 => ?_) (fun t5 => ?_)
          · obtain ⟨p, hpi⟩ := get_lt ps i (by omega)
            have hpm := List.mem_of_getElem? hpi
            have hok := hmn.1.1 p.d (List.mem_map.2 ⟨p, hpm, rfl⟩)
            have hps3 : RSl w0 (.star M :: ol 41 pa pc ps :: stars oP ps :: H) pa pc ps := RSl.hd.tl
            have hpr : RPc w0 (.star M :: ol 41 pa pc ps :: stars oP ps :: H) p := (RPc.st hpm).tl.tl
            refine sx ?_
            refine s_alloc fun b18 => ?_
            refine sx ?_
            refine s_rw (t := 119) (v' := .pointer (some ((⟨b18, 0, none⟩ : Addr).add 3))) rfl rfl ?_
            obtain ⟨put, qa, qc, qk, qva, qvc, qv, la, lc, lo, ha, hc, hi, al⟩ := p
            have hkr := hpr.key
            have hlr := hpr.g.lo
            have hhr := hpr.g.hi
            simp only at hkr hlr hhr
            cases put
            · obtain ⟨rfl, rfl, hne, rfl⟩ : qk = [] ∧ qv = [] ∧ Nef (lo, hi, al) ∧ al = false := hok
              refine s_entL (.hb b18 41 [.bool false, .slice qa 0 qc, .slice qva 0 qvc, .slice la lo.length lc, .slice ha hi.length hc, .bool false] :: .star M :: ol 41 pa pc ps :: stars oP ps :: H) Ent.refl ?_
              refine sx ?_
              refine s_callV rfl (oempty_s (r := ⟨la, lc, lo, ha, hc, hi, false⟩) ⟨hlr.tl, hhr.tl⟩) ?_
              rw [show emR (Rg.d ⟨la, lc, lo, ha, hc, hi, false⟩) = false from Bool.eq_false_iff.2 hne.2]
              refine sx ?_
              refine s_rw (t := 164) (v' := .pointer (some ((⟨b18, 0, none⟩ : Addr).add 5))) rfl rfl ?_
              refine sx ?_
              refine s_lif rfl (fun t6 => ?_) (fun t6 => ?_)
              · obtain ⟨p', hp'⟩ := get_lt ps (i - 1) (by omega)
                have hend := h3 p' (by omega) hp'
                have hst := wf_step hmn.1 (by omega : i - 1 < i) (get_map (f := Pc.d) hp') (get_map (f := Pc.d) hpi)
                have hst1 : cmp es lo ≤ 0 := by rw [hend]; exact hst.1
                have hst2 : p'.put = false → cmp es lo < 0 := fun g => by rw [hend]; exact hst.2 g rfl
                refine sx ?_
                refine s_lsp rfl (fun t7 => ?_) (fun t7 => ?_)
                · have t8 := hst2 (by simpa using t7)
                  refine sx ?_
                  refine s_callV rfl (compare_s (xs := es) (ys := lo) (by exact rby) hlr.tl) ?_
                  refine sx ?_
                  refine s_rw (t := 20) (v' := .bool false) rfl (by rw [decide_eq_false (by omega)]) ?_
                  refine s_rw (t := 193) (v' := .bool true) rfl (by rw [decide_eq_true (by omega)]) ?_
                  refine sx ?_
                  refine s_callV rfl (compare_s (xs := es) (ys := lo) (by exact rby) hlr.tl) ?_
                  refine sx ?_
                  refine s_rw (t := 199) (v' := .bool false) rfl (by rw [decide_eq_false (by omega)]) ?_
                  refine sx ?_
                  refine s_rw (t := 203) (v' := .pointer (some ((⟨b18, 0, none⟩ : Addr).add 4))) rfl rfl ?_
                  refine sx ?_
                  exact s_again ⟨i + 1, ha, hc, hi, M⟩ ⟨by simp only; omega, hhr, fun p0 _ h0 => by
                    simp only [Nat.add_sub_cancel] at h0
                    rw [hpi] at h0
                    cases h0
                    rfl⟩ (by simp only; omega)
                · refine sx ?_
                  refine s_rw (t := 193) (v' := .bool true) rfl (by rw [decide_eq_true (by omega)]) ?_
                  refine sx ?_
                  refine s_callV rfl (compare_s (xs := es) (ys := lo) (by exact rby) hlr.tl) ?_
                  refine sx ?_
                  refine s_rw (t := 199) (v' := .bool false) rfl (by rw [decide_eq_false (by omega)]) ?_
                  refine sx ?_
                  refine s_rw (t := 203) (v' := .pointer (some ((⟨b18, 0, none⟩ : Addr).add 4))) rfl rfl ?_
                  refine sx ?_
                  exact s_again ⟨i + 1, ha, hc, hi, M⟩ ⟨by simp only; omega, hhr, fun p0 _ h0 => by
                    simp only [Nat.add_sub_cancel] at h0
                    rw [hpi] at h0
                    cases h0
                    rfl⟩ (by simp only; omega)
              · refine sx ?_
                refine s_rw (t := 193) (v' := .bool false) rfl (by rw [decide_eq_false (by omega)]) ?_
                refine sx ?_
                refine s_rw (t := 203) (v' := .pointer (some ((⟨b18, 0, none⟩ : Addr).add 4))) rfl rfl ?_
                refine sx ?_
                exact s_again ⟨i + 1, ha, hc, hi, M⟩ ⟨by simp only; omega, hhr, fun p0 _ h0 => by
                  simp only [Nat.add_sub_cancel] at h0
                  rw [hpi] at h0
                  cases h0
                  rfl⟩ (by simp only; omega)
            · obtain ⟨rfl, rfl, rfl⟩ : lo = [] ∧ hi = [] ∧ al = false := by
                have hok : (lo, hi, al) = t30 := hok
                simpa using hok
              refine s_entL (.hb b18 41 [.bool true, .slice qa qk.length qc, .slice qva qv.length qvc, .slice la 0 lc, .slice ha 0 hc, .bool false] :: .star M :: ol 41 pa pc ps :: stars oP ps :: H) Ent.refl ?_
              refine sx ?_
              refine s_rw (t := 129) (v' := .pointer (some ((⟨b18, 0, none⟩ : Addr).add 3))) rfl rfl ?_
              refine sx ?_
              refine s_rw (t := 133) (v' := .pointer (some ((⟨b18, 0, none⟩ : Addr).add 4))) rfl rfl ?_
              refine sx ?_
              refine s_rw (t := 140) (v' := .pointer (some ((⟨b18, 0, none⟩ : Addr).add 5))) rfl rfl ?_
              have hqk : qk.length ≤ 140737488355327 := by
                have hg := (hmn.2 qk (some qv)).1 ⟨_, List.mem_map.2 ⟨_, hpm, rfl⟩, by unfold spP; simp⟩
                obtain ⟨m, hm, _, hlo, _⟩ := getM_put hg
                obtain ⟨m', hm', rfl⟩ := List.mem_map.1 hm
                have := (hz m' hm').1
                rw [← hlo]
                exact this
              refine sx ?_
              refine s_lif rfl (fun t6 => ?_) (fun t6 => ?_)
              · obtain ⟨p', hp'⟩ := get_lt ps (i - 1) (by omega)
                have hend := h3 p' (by omega) hp'
                have hst := wf_step hmn.1 (by omega : i - 1 < i) (get_map (f := Pc.d) hp') (get_map (f := Pc.d) hpi)
                have hst1 : cmp es qk ≤ 0 := by rw [hend]; exact hst.1
                refine sx ?_
                refine s_rw (t := 193) (v' := .bool true) rfl (by rw [decide_eq_true (by omega)]) ?_
                refine sx ?_
                refine s_callV rfl (compare_s (xs := es) (ys := qk) (by exact rby) hkr.tl) ?_
                refine sx ?_
                refine s_rw (t := 199) (v' := .bool false) rfl (by rw [decide_eq_false (by omega)]) ?_
                refine sx ?_
                refine s_rw (t := 203) (v' := .pointer (some ((⟨b18, 0, none⟩ : Addr).add 4))) rfl rfl ?_
                refine sx ?_
                refine s_call rfl (onext_s (xs := qk) hkr.tl hqk) ?_
                rintro _ _ ⟨na, nc, rfl, rfl⟩
                refine ⟨chk_seq, ?_⟩
                refine sx ?_
                exact s_again ⟨i + 1, na, nc, qk ++ [0], ob na nc (qk ++ [0]) :: M⟩ ⟨by simp only; omega, RBy.ent (H' := (ob na nc (qk ++ [0]) :: M) ++ (ol 41 pa pc ps :: stars oP ps :: H)) RBy.hd (Ent.open Ent.refl), fun p0 _ h0 => by
                  simp only [Nat.add_sub_cancel] at h0
                  rw [hpi] at h0
                  cases h0
                  rfl⟩ (by simp only; omega) (he := Ent.trans (H' := ob na nc (qk ++ [0]) :: .star M :: ol 41 pa pc ps :: stars oP ps :: H) (by exact ent) (Ent.star (Ent.head (Ent.open Ent.refl))))
              · refine sx ?_
                refine s_rw (t := 193) (v' := .bool false) rfl (by rw [decide_eq_false (by omega)]) ?_
                refine sx ?_
                refine s_rw (t := 203) (v' := .pointer (some ((⟨b18, 0, none⟩ : Addr).add 4))) rfl rfl ?_
                refine sx ?_
                refine s_call rfl (onext_s (xs := qk) hkr.tl hqk) ?_
                rintro _ _ ⟨na, nc, rfl, rfl⟩
                refine ⟨chk_seq, ?_⟩
                refine sx ?_
                exact s_again ⟨i + 1, na, nc, qk ++ [0], ob na nc (qk ++ [0]) :: M⟩ ⟨by simp only; omega, RBy.ent (H' := (ob na nc (qk ++ [0]) :: M) ++ (ol 41 pa pc ps :: stars oP ps :: H)) RBy.hd (Ent.open Ent.refl), fun p0 _ h0 => by
                  simp only [Nat.add_sub_cancel] at h0
                  rw [hpi] at h0
                  cases h0
                  rfl⟩ (by simp only; omega) (he := Ent.trans (H' := ob na nc (qk ++ [0]) :: .star M :: ol 41 pa pc ps :: stars oP ps :: H) (by exact ent) (Ent.star (Ent.head (Ent.open Ent.refl))))
          · refine sx ?_
            exact s_ret1 rfl rfl ⟨rfl, rfl⟩
        · exact Ent.trans (H' := ob (some ⟨b107, 0, none⟩) 0 [] :: ol 41 pa pc ps :: stars oP ps :: H) (by exact ent) (Ent.star Ent.refl)
  · exact Ent.head Ent.star0
end Go.Sx
