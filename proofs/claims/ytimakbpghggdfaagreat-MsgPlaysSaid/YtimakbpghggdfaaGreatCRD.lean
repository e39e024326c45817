/- Part of a proof: lists that came out are kept: entries, messages, pieces. (Printed by genRD.py.) -/
import Derived.Test.YtimakbpghggdfaaGreatCQ1j
import Derived.Test.YtimakbpghggdfaaGreatCZMj
import Derived.Test.YtimakbpghggdfaaGreatCZJj
import Derived.Test.YtimakbpghggdfaaGreatCPT
namespace Go.Sx
open Go Go.Proofs
set_option maxRecDepth 10000
variable {w0 : World} {H : List Ck}
structure SMg where
  a : Option Addr
  c : Nat
  xs : List Mg
@[reducible] def SMg.val (s : SMg) : Value := .slice s.a s.xs.length s.c
instance : Cel SMg := ⟨1, fun x => [x.val], fun _ => rfl, fun _ => rfl, Nat.one_pos⟩
instance : ElT Tryz.prog 23 SMg := ⟨trivial⟩
instance : Row SMg Mg := ⟨SMg.a, SMg.c, SMg.xs⟩
structure SPc where
  a : Option Addr
  c : Nat
  xs : List Pc
@[reducible] def SPc.val (s : SPc) : Value := .slice s.a s.xs.length s.c
instance : Cel SPc := ⟨1, fun x => [x.val], fun _ => rfl, fun _ => rfl, Nat.one_pos⟩
instance : ElT Tryz.prog 45 SPc := ⟨trivial⟩
instance : Row SPc Pc := ⟨SPc.a, SPc.c, SPc.xs⟩
instance : ElT Tryz.prog 22 SE := ⟨trivial⟩
/-- Lists that came out. -/
structure LsT where
  ea : Option Addr
  ec : Nat
  es : List SE
  ma : Option Addr
  mc : Nat
  ms : List SMg
  pa : Option Addr
  pc : Nat
  ps : List SPc
@[reducible] def LsT.sf (L : LsT) (n : Int) : List Value := [.slice L.ea L.es.length L.ec, .slice L.ma L.ms.length L.mc, .slice L.pa L.ps.length L.pc, .int .i64 n]
@[reducible] def LsT.X (L : LsT) : List Ck := [ol 22 L.ea L.ec L.es, fam 31 L.es, ol 23 L.ma L.mc L.ms, fam 35 L.ms, ol 45 L.pa L.pc L.ps, fam 83 L.ps]
structure LsOk (B : Ob) (L : LsT) (n : Int) (cnt rows : Nat) : Prop where
  ok : B.Ok cnt
  sf : B.sf = L.sf n
  rw : L.es.length + L.ms.length + L.ps.length ≤ rows
  se : ∀ s ∈ L.es, s.xs.length ≤ 4294967296
  sm : ∀ s ∈ L.ms, s.xs.length ≤ 4294967296
  sp : ∀ s ∈ L.ps, s.xs.length ≤ 4294967296
theorem obk_by {B : Ob} {s : SB} (h : s ∈ B.ls) : RBy w0 (B.ck :: H) s.a s.c s.xs := RBy.ent (fam_by (E := 5) (H := []) h) (Ent.mem' (c := fam 5 B.ls) (by simp [Ob.pieces]))
theorem snoc_small {β : Type} {f : β → Nat} {l : List β} {s : β} (h : ∀ x ∈ l, f x ≤ 4294967296) (hs : f s ≤ 4294967296) : ∀ x ∈ l ++ [s], f x ≤ 4294967296 := fun x hx => by
  rcases List.mem_append.1 hx with h1 | h1
  · exact h x h1
  · rw [List.mem_singleton.1 h1]; exact hs
/-- Its bytes are kept. -/
def HdE (B : Ob) (e : KV) : Prop := (⟨e.ka, e.kc, e.k⟩ : SB) ∈ B.ls ∧ (⟨e.va, e.vc, e.v⟩ : SB) ∈ B.ls
def HdM (B : Ob) (m : Mg) : Prop := (⟨m.la, m.lc, m.lo⟩ : SB) ∈ B.ls ∧ (⟨m.ha, m.hc, m.hi⟩ : SB) ∈ B.ls ∧ (⟨m.va, m.vc, m.v⟩ : SB) ∈ B.ls
def HdP (B : Ob) (p : Pc) : Prop := (⟨p.ka, p.kc, p.key⟩ : SB) ∈ B.ls ∧ (⟨p.va, p.vc, p.v⟩ : SB) ∈ B.ls ∧ (⟨p.g.la, p.g.lc, p.g.lo⟩ : SB) ∈ B.ls ∧ (⟨p.g.ha, p.g.hc, p.g.hi⟩ : SB) ∈ B.ls
theorem HdE.mono {B B' : Ob} {e : KV} (h : HdE B e) (hb : ∀ t ∈ B.ls, t ∈ B'.ls) : HdE B' e := ⟨hb _ h.1, hb _ h.2⟩
theorem HdM.mono {B B' : Ob} {e : Mg} (h : HdM B e) (hb : ∀ t ∈ B.ls, t ∈ B'.ls) : HdM B' e := ⟨hb _ h.1, hb _ h.2.1, hb _ h.2.2⟩
theorem HdP.mono {B B' : Ob} {e : Pc} (h : HdP B e) (hb : ∀ t ∈ B.ls, t ∈ B'.ls) : HdP B' e := ⟨hb _ h.1, hb _ h.2.1, hb _ h.2.2.1, hb _ h.2.2.2⟩
structure LsI where
  i : Nat
  B : Ob
set_option maxHeartbeats 4000000 in
theorem lsamePs_s {a a' : Option Addr} {c c' : Nat} {xs ys : List Pc} (hx : RSl w0 H a c xs) (hxr : ∀ p ∈ xs, RPc w0 H p) (hy : RSl w0 H a' c' ys) (hyr : ∀ p ∈ ys, RPc w0 H p) (hxa : ∀ p ∈ xs, p.g.all = false) (hxy : xs.map Pc.d = ys.map Pc.d) :
    FnV Tryz.prog w0 H 18 #[.slice a xs.length c, .slice a' ys.length c'] (.bool true) := by
  have hlen : ys.length = xs.length := by simpa using congrArg List.length hxy.symm
  refine fns_enter Tryz.func18 rfl rfl rfl ?_
  refine s_kn (Kn.sl hx) fun l1 => ?_
  simp only [maxLen] at l1
  refine sx ?_
  refine s_ifn rfl (fun t => absurd (by omega) t) (fun _ => ?_)
  refine sx ?_
  refine s_loop (fun i : Nat => [(0, .slice a xs.length c), (1, .slice a' ys.length c'), (5, .int .i64 i)]) (fun _ => H) (fun i => i ≤ xs.length) (fun i => xs.length - i) 0 (Nat.zero_le _) ?_
  intro i hi
  refine sx ?_
  refine s_if rfl (fun t1 => ?_) (fun t1 => ?_)
  · obtain ⟨x, hxi⟩ := get_lt xs i (by omega)
    obtain ⟨y, hyi⟩ := get_lt ys i (by omega)
    have mx := List.mem_of_getElem? hxi
    have my := List.mem_of_getElem? hyi
    have hee : Pc.d x = Pc.d y := by
      have q1 := get_map (f := Pc.d) hxi
      rw [hxy, get_map (f := Pc.d) hyi] at q1
      exact (Option.some.inj q1).symm
    have hall := hxa x mx
    obtain ⟨e0, e1, e2, e3, e4, e5⟩ : x.put = y.put ∧ x.key = y.key ∧ x.v = y.v ∧ x.g.lo = y.g.lo ∧ x.g.hi = y.g.hi ∧ x.g.all = y.g.all := by
      simp only [Pc.d, Rg.d, PD.mk.injEq, Prod.mk.injEq] at hee
      exact ⟨hee.1, hee.2.1, hee.2.2.1, hee.2.2.2.1, hee.2.2.2.2.1, hee.2.2.2.2.2⟩
    have rx := hxr x mx
    have ry := hyr y my
    refine sx ?_
    refine s_alloc fun b6 => ?_
    refine sx ?_
    have hy2 := hy.tl (d := .hb b6 83 (Cel.f x))
    refine s_alloc fun b7 => ?_
    refine sx ?_
    have rx2 : RPc w0 (.hb b7 83 (Cel.f y) :: .hb b6 83 (Cel.f x) :: H) x := rx.tl.tl
    have ry2 : RPc w0 (.hb b7 83 (Cel.f y) :: .hb b6 83 (Cel.f x) :: H) y := ry.tl.tl
    obtain ⟨x1, x2, x3, x4⟩ := rx2
    obtain ⟨y1, y2, y3, y4⟩ := ry2
    refine s_gF rfl (by simp [e0]) ?_
    refine sx ?_
    refine s_gF rfl (by simp [e1]) ?_
    refine sx ?_
    refine s_gF rfl (by simp [e2]) ?_
    refine sx ?_
    refine s_rw (t := 52) (v' := .pointer (some ((⟨b6, 0, none⟩ : Addr).add 3))) rfl rfl ?_
    refine sx ?_
    refine s_rw (t := 56) (v' := .pointer (some ((⟨b7, 0, none⟩ : Addr).add 3))) rfl rfl ?_
    refine sx ?_
    refine s_gF rfl (by simp [e3]) ?_
    refine sx ?_
    refine s_rw (t := 63) (v' := .pointer (some ((⟨b6, 0, none⟩ : Addr).add 4))) rfl rfl ?_
    refine sx ?_
    refine s_rw (t := 67) (v' := .pointer (some ((⟨b7, 0, none⟩ : Addr).add 4))) rfl rfl ?_
    refine sx ?_
    refine s_gF rfl (by simp [e4]) ?_
    refine sx ?_
    refine s_rw (t := 74) (v' := .pointer (some ((⟨b6, 0, none⟩ : Addr).add 5))) rfl rfl ?_
    refine sx ?_
    refine s_gF rfl hall ?_
    refine sx ?_
    refine s_rw (t := 79) (v' := .pointer (some ((⟨b7, 0, none⟩ : Addr).add 5))) rfl rfl ?_
    refine sx ?_
    refine s_cF rfl (by rw [← e5]; exact hall) ?_
    refine sx ?_
    exact s_again (i + 1) (by omega) (by omega) (he := Ent.tl (Ent.tl Ent.refl))
  · refine sx ?_
    exact s_ret1 rfl rfl ⟨rfl, rfl⟩
set_option maxHeartbeats 8000000 in
theorem lsEntries_s {B : Ob} {L : LsT} {n : Int} {cnt rows : Nat} (h : LsOk B L n cnt rows) {a a' : Option Addr} {c c' : Nat} {xs ys : List KV} (hy : RSl w0 H a' c' ys) (hr : ∀ e ∈ ys, REe w0 H e) (hxy : xs.map KV.p = ys.map KV.p) (hz : ∀ e ∈ ys, e.k.length ≤ 140737488351232 ∧ e.v.length ≤ 140737488351232) (hl : xs.length ≤ 4294967296) (hc : cnt + 2 * xs.length ≤ 2999999999000) (hrw : rows ≤ 2932031007400) (hn : 0 ≤ n ∧ n ≤ 9007199254740992) :
    FnS Tryz.prog w0 (B.ck :: .star L.X :: ol 31 a c xs :: stars oKVs xs :: H) 90 #[.pointer (some ⟨B.k, 0, none⟩), .slice a xs.length c, .slice a' ys.length c'] (fun v H' => ∃ B' L' x, v = .bool true ∧ B'.k = B.k ∧ LsOk B' L' (n + 2 * x) (cnt + 2 * xs.length) (rows + 1) ∧ (0 ≤ x ∧ x ≤ 1125899906842624) ∧ (x ≤ 2147483647 → x = (sumE ys : Nat)) ∧ H' = B'.ck :: .star L'.X :: H) := by
  obtain ⟨hok, hsf, hrows, hse, hsm, hsp⟩ := h
  obtain ⟨K, sf, la, lc, ls, wa, wc, ws⟩ := B
  obtain ⟨ea, ec, es, ma, mc, ms, pa, pc, ps⟩ := L
  simp only [LsT.sf, LsT.X] at hok hsf hrows hse hsm hsp ⊢
  subst hsf
  have hlen : ys.length = xs.length := by simpa using congrArg List.length hxy.symm
  refine fns_enter Tryz.func90 rfl rfl rfl ?_
  refine s_ent (.hb K 69 (.slice la ls.length lc :: .slice wa ws.length wc :: [.slice ea es.length ec, .slice ma ms.length mc, .slice pa ps.length pc, .int .i64 n]) :: ol 22 ea ec es :: .star [ol 24 la lc ls, ol 9 wa wc ws, fam 5 ls] :: .star [fam 31 es, ol 23 ma mc ms, fam 35 ms, ol 45 pa pc ps, fam 83 ps] :: ol 31 a c xs :: stars oKVs xs :: H) ?_ ?_
  · refine Ent.open (Ent.head ?_)
    refine Ent.trans (H' := .star [ol 24 la lc ls, ol 9 wa wc ws, fam 5 ls] :: .star [ol 22 ea ec es, fam 31 es, ol 23 ma mc ms, fam 35 ms, ol 45 pa pc ps, fam 83 ps] :: ol 31 a c xs :: stars oKVs xs :: H) (Ent.star (L := [_, _, _]) Ent.refl) ?_
    refine Ent.trans (Ent.perm (.swap _ _ _)) (Ent.open ?_)
    show Ent (ol 22 ea ec es :: fam 31 es :: ol 23 ma mc ms :: fam 35 ms :: ol 45 pa pc ps :: fam 83 ps :: .star [ol 24 la lc ls, ol 9 wa wc ws, fam 5 ls] :: ol 31 a c xs :: stars oKVs xs :: H) _
    refine Ent.cons (by exact rm) (Ent.cons (by exact rm) ?_)
    exact Ent.star (L := [_, _, _, _, _]) Ent.refl
  refine sx ?_
  refine s_bsl [(⟨a, c, xs⟩ : SE)] rfl rfl fun b14 => ?_
  refine s_app (xs := es) (ys := [(⟨a, c, xs⟩ : SE)]) ?_ (hby := by simp only [List.length_cons, List.length_nil]; omega)
  intro a4 c4
  refine sx ?_
  have hB1 : Ent (.hb K 69 (.slice la ls.length lc :: .slice wa ws.length wc :: [.slice a4 (es ++ [(⟨a, c, xs⟩ : SE)]).length c4, .slice ma ms.length mc, .slice pa ps.length pc, .int .i64 n]) :: .star [ol 24 la lc ls, ol 9 wa wc ws, fam 5 ls] :: ol 31 a c xs :: stars oKVs xs :: .star (ol 22 a4 c4 (es ++ [(⟨a, c, xs⟩ : SE)]) :: [fam 31 es, ol 23 ma mc ms, fam 35 ms, ol 45 pa pc ps, fam 83 ps]) :: H) (Ob.ck ⟨K, [.slice a4 (es ++ [(⟨a, c, xs⟩ : SE)]).length c4, .slice ma ms.length mc, .slice pa ps.length pc, .int .i64 n], la, lc, ls, wa, wc, ws⟩ :: stars oKVs xs :: ol 31 a c xs :: .star (ol 22 a4 c4 (es ++ [(⟨a, c, xs⟩ : SE)]) :: [fam 31 es, ol 23 ma mc ms, fam 35 ms, ol 45 pa pc ps, fam 83 ps]) :: H) := by
    refine Ent.star (L := [_, _, _, _]) (Ent.head ?_)
    refine Ent.open (L := [_, _, _]) (Ent.head (Ent.head (Ent.head ?_)))
    exact Ent.perm (.swap _ _ _)
  refine s_ent (Ob.ck ⟨K, [.slice a4 (es ++ [(⟨a, c, xs⟩ : SE)]).length c4, .slice ma ms.length mc, .slice pa ps.length pc, .int .i64 n], la, lc, ls, wa, wc, ws⟩ :: stars oKVs xs :: ol 31 a c xs :: .star (ol 22 a4 c4 (es ++ [(⟨a, c, xs⟩ : SE)]) :: [fam 31 es, ol 23 ma mc ms, fam 35 ms, ol 45 pa pc ps, fam 83 ps]) :: H) (Ent.trans ?_ hB1) ?_
  · refine Ent.cons (by exact rm) (Ent.cons (by exact rm) (Ent.cons (by exact rm) (Ent.cons (by exact rm) ?_)))
    exact Ent.star (L := [_, _, _, _, _, _]) (Ent.cons (by exact rm) (Ent.trans (H' := .star [fam 31 es, ol 23 ma mc ms, fam 35 ms, ol 45 pa pc ps, fam 83 ps] :: H) (by exact ent) (Ent.open (L := [_, _, _, _, _]) Ent.refl)))
  clear hB1
  refine s_loop (fun q : LsI => [(0, .pointer (some ⟨K, 0, none⟩)), (1, .slice a xs.length c), (2, .slice a' ys.length c'), (7, .int .i64 q.i)]) (fun q => q.B.ck :: stars oKVs (xs.drop q.i) :: ol 31 a c xs :: .star (ol 22 a4 c4 (es ++ [(⟨a, c, xs⟩ : SE)]) :: [fam 31 es, ol 23 ma mc ms, fam 35 ms, ol 45 pa pc ps, fam 83 ps]) :: H) (fun q => q.i ≤ xs.length ∧ q.B.k = K ∧ q.B.sf = [.slice a4 (es ++ [(⟨a, c, xs⟩ : SE)]).length c4, .slice ma ms.length mc, .slice pa ps.length pc, .int .i64 n] ∧ q.B.Ok (cnt + 2 * q.i) ∧ ∀ j e, j < q.i → xs[j]? = some e → HdE q.B e) (fun q => xs.length - q.i) ⟨0, ⟨K, [.slice a4 (es ++ [(⟨a, c, xs⟩ : SE)]).length c4, .slice ma ms.length mc, .slice pa ps.length pc, .int .i64 n], la, lc, ls, wa, wc, ws⟩⟩ ⟨Nat.zero_le _, rfl, rfl, ⟨hok.same, hok.len, hok.small⟩, fun j e hj _ => absurd hj (Nat.not_lt_zero _)⟩ ?_ (he := Ent.refl)
  clear hok
  rintro ⟨i, B⟩ ⟨h1, hk, hsf, hok, hhd⟩
  simp only at h1 hk hsf hok hhd ⊢
  refine sx ?_
  refine s_lif rfl (fun t1 => ?_) (fun t1 => ?_)
  · obtain ⟨e5, he5⟩ := get_lt xs i (by omega)
    obtain ⟨e6, he6⟩ := get_lt ys i (by omega)
    have hee : KV.p e5 = KV.p e6 := by
      have q1 := get_map (f := KV.p) he5
      rw [hxy, get_map (f := KV.p) he6] at q1
      exact (Option.some.inj q1).symm
    obtain ⟨hx1, hx2⟩ : e5.k = e6.k ∧ e5.v = e6.v := by simpa only [KV.p, Prod.mk.injEq] using hee
    have m6 := List.mem_of_getElem? he6
    have z6 := hz e6 m6
    obtain ⟨z1, z2⟩ := z6
    rw [← hx1] at z1
    rw [← hx2] at z2
    have r6 : REe w0 H e6 := hr e6 m6
    have hy2 := hy.tl (d := ol 31 a c xs)
    refine sx ?_
    refine s_if rfl (fun t2 => ?_) (fun t2 => absurd (by omega) t2)
    have hd : xs.drop i = e5 :: xs.drop (i + 1) := by
      obtain ⟨h7, h8⟩ := List.getElem?_eq_some_iff.1 he5
      rw [List.drop_eq_getElem_cons h7, h8]
    refine s_ent (ob e5.ka e5.kc e5.k :: B.ck :: ob e5.va e5.vc e5.v :: stars oKVs (xs.drop (i + 1)) :: ol 31 a c xs :: .star (ol 22 a4 c4 (es ++ [(⟨a, c, xs⟩ : SE)]) :: [fam 31 es, ol 23 ma mc ms, fam 35 ms, ol 45 pa pc ps, fam 83 ps]) :: H) ?_ ?_
    · rw [hd]
      refine Ent.trans (Ent.perm (.swap _ _ _)) (stars_cons.trans ?_)
      show Ent (ob e5.ka e5.kc e5.k :: ob e5.va e5.vc e5.v :: stars oKVs (xs.drop (i + 1)) :: B.ck :: _) _
      exact entq
    refine sx ?_
    refine s_drH (ol 31 a c xs :: H) (.one true 0 (.one true 1 (.one true 2 (.one true 3 (.one true 4 (.one true 5 (.one true 6 (.one true 7 (.one true 8 (.one true 9 (.one true 10 (.one true 11 (.one true 12 (.one false 13 .nil)))))))))))))) mixed (by kernel_rfl) ?_ (he := by exact ent)
    refine sx ?_
    refine s_rw (t := 32) (v' := .pointer (some ⟨B.k, 0, none⟩)) rfl (by rw [hk]; rfl) ?_
    refine s_rw (t := 42) (v' := .slice e6.ka e5.k.length e6.kc) rfl (by rw [hx1]) ?_
    refine s_call rfl (holdB_s (a := e5.ka) (c := e5.kc) (xs := e5.k) hok (by omega) (by omega) (by rw [hx1]; exact r6.k.ent (Ent.dropL [_, _, _, _]))) ?_
    rintro _ _ ⟨B1, rfl, k1, sf1, ok1, up1, in1⟩
    refine ⟨chk_held (by exact ent), ?_⟩
    refine sx ?_
    refine s_drH (ol 31 a c xs :: H) (.one true 0 (.one true 1 (.one true 2 (.one true 3 (.one true 4 (.one true 5 (.one true 6 (.one true 7 (.one true 8 (.one true 9 (.one true 10 (.one true 11 (.one true 12 (.one false 13 .nil)))))))))))))) mixed (by kernel_rfl) ?_ (he := by exact ent)
    refine sx ?_
    refine s_rw (t := 46) (v' := .pointer (some ⟨B1.k, 0, none⟩)) rfl (by rw [k1, hk]; rfl) ?_
    refine s_rw (t := 56) (v' := .slice e6.va e5.v.length e6.vc) rfl (by rw [hx2]) ?_
    refine s_entL (ob e5.va e5.vc e5.v :: B1.ck :: stars oKVs (xs.drop (i + 1)) :: ol 31 a c xs :: .star (ol 22 a4 c4 (es ++ [(⟨a, c, xs⟩ : SE)]) :: [fam 31 es, ol 23 ma mc ms, fam 35 ms, ol 45 pa pc ps, fam 83 ps]) :: H) (by exact entq) ?_
    refine s_call rfl (holdB_s (a := e5.va) (c := e5.vc) (xs := e5.v) ok1 (by omega) (by omega) (by rw [hx2]; exact r6.v.ent (Ent.dropL [_, _, _]))) ?_
    rintro _ _ ⟨B2, rfl, k2, sf2, ok2, up2, in2⟩
    refine ⟨chk_held (by exact ent), ?_⟩
    refine sx ?_
    have hup : ∀ t ∈ B.ls, t ∈ B2.ls := fun t ht => up2 _ (up1 _ (ht))
    refine s_again ⟨i + 1, B2⟩ ⟨by simp only; omega, by show B2.k = K; rw [k2, k1, hk], by show B2.sf = _; rw [sf2, sf1, hsf], ?_, ?_⟩ (by simp only; omega) (he := Ent.refl)
    · show B2.Ok (cnt + 2 * (i + 1))
      exact ⟨ok2.same, by have := ok2.len; omega, ok2.small⟩
    · intro j e hj hje
      simp only at hj ⊢
      by_cases hji : j < i
      · exact (hhd j e hji hje).mono hup
      · obtain rfl : j = i := by omega
        rw [he5] at hje
        cases hje
        exact ⟨up2 _ (in1), in2⟩
  obtain rfl : i = xs.length := by omega
  have hall : ∀ e ∈ xs, HdE B e := fun e he => by
    obtain ⟨j, hj⟩ := List.getElem?_of_mem he
    exact hhd j e (List.getElem?_eq_some_iff.1 hj).1 hj
  clear hhd t1
  refine sx ?_
  obtain ⟨K2, sf2, la2, lc2, ls2, wa2, wc2, ws2⟩ := B
  simp only at hk hsf hok hall
  subst hk
  subst hsf
  refine s_ent (.hb K2 69 (.slice la2 ls2.length lc2 :: .slice wa2 ws2.length wc2 :: [.slice a4 (es ++ [(⟨a, c, xs⟩ : SE)]).length c4, .slice ma ms.length mc, .slice pa ps.length pc, .int .i64 n]) :: .star [ol 24 la2 lc2 ls2, ol 9 wa2 wc2 ws2, fam 5 ls2] :: ol 31 a c xs :: .star (ol 22 a4 c4 (es ++ [(⟨a, c, xs⟩ : SE)]) :: [fam 31 es, ol 23 ma mc ms, fam 35 ms, ol 45 pa pc ps, fam 83 ps]) :: H) ?_ ?_
  · refine Ent.open (Ent.head ?_)
    refine Ent.star (L := [_, _, _]) (Ent.head (Ent.head (Ent.head ?_)))
    exact Ent.tl Ent.refl
  refine sx ?_
  refine s_drU (.hb K2 69 (.slice la2 ls2.length lc2 :: .slice wa2 ws2.length wc2 :: [.slice a4 (es ++ [(⟨a, c, xs⟩ : SE)]).length c4, .slice ma ms.length mc, .slice pa ps.length pc, .int .i64 n]) :: []) (.one true 0 (.one true 1 (.one true 2 (.one true 3 (.one true 4 (.one true 5 (.one false 6 (.one true 7 (.one true 8 (.one true 9 (.one true 10 .nil))))))))))) (.one false 11 .nil) [11] #[true, true, true, true, true, true, true, true, true, true, true, false] mixed (by kernel_rfl) ?_
  refine sx ?_
  refine s_call rfl (entries_s7 (es := ys) (hy.ent (Ent.dropL [_, _, _, _])) (fun e he => by have := hz e he; omega)) ?_
  rintro _ H2 ⟨x, rfl, hx5, hx6, hH⟩
  rw [hH]
  clear hH
  refine ⟨chk_held (by exact ent), ?_⟩
  refine sx ?_
  refine s_bar ?_
  refine sx ?_
  have hcl : Ent (.hb K2 69 (.slice la2 ls2.length lc2 :: .slice wa2 ws2.length wc2 :: [.slice a4 (es ++ [(⟨a, c, xs⟩ : SE)]).length c4, .slice ma ms.length mc, .slice pa ps.length pc, .int .i64 (n + 2 * x)]) :: .star [ol 24 la2 lc2 ls2, ol 9 wa2 wc2 ws2, fam 5 ls2] :: ol 31 a c xs :: .star (ol 22 a4 c4 (es ++ [(⟨a, c, xs⟩ : SE)]) :: [fam 31 es, ol 23 ma mc ms, fam 35 ms, ol 45 pa pc ps, fam 83 ps]) :: H) (Ob.ck (⟨K2, [.slice a4 (es ++ [(⟨a, c, xs⟩ : SE)]).length c4, .slice ma ms.length mc, .slice pa ps.length pc, .int .i64 (n + 2 * x)], la2, lc2, ls2, wa2, wc2, ws2⟩ : Ob) :: ol 31 a c xs :: .star (ol 22 a4 c4 (es ++ [(⟨a, c, xs⟩ : SE)]) :: [fam 31 es, ol 23 ma mc ms, fam 35 ms, ol 45 pa pc ps, fam 83 ps]) :: H) := by
    refine Ent.star (L := [_, _, _, _]) (Ent.head ?_)
    exact Ent.open (L := [_, _, _]) Ent.refl
  refine s_entL (Ob.ck (⟨K2, [.slice a4 (es ++ [(⟨a, c, xs⟩ : SE)]).length c4, .slice ma ms.length mc, .slice pa ps.length pc, .int .i64 (n + 2 * x)], la2, lc2, ls2, wa2, wc2, ws2⟩ : Ob) :: ol 31 a c xs :: .star (ol 22 a4 c4 (es ++ [(⟨a, c, xs⟩ : SE)]) :: [fam 31 es, ol 23 ma mc ms, fam 35 ms, ol 45 pa pc ps, fam 83 ps]) :: H) (Ent.trans (by exact ent) hcl) ?_
  clear hcl
  refine s_callV rfl (lsameE_s (xs := xs) (ys := ys) RSl.hd.tl (fun e he => ⟨obk_by (B := (⟨K2, [.slice a4 (es ++ [(⟨a, c, xs⟩ : SE)]).length c4, .slice ma ms.length mc, .slice pa ps.length pc, .int .i64 (n + 2 * x)], la2, lc2, ls2, wa2, wc2, ws2⟩ : Ob)) (hall e he).1, obk_by (B := (⟨K2, [.slice a4 (es ++ [(⟨a, c, xs⟩ : SE)]).length c4, .slice ma ms.length mc, .slice pa ps.length pc, .int .i64 (n + 2 * x)], la2, lc2, ls2, wa2, wc2, ws2⟩ : Ob)) (hall e he).2⟩) (hy.ent (Ent.dropL [_, _, _])) (fun e he => (hr e he).ent (Ent.dropL [_, _, _]))) ?_
  rw [decide_eq_true hxy]
  refine sx ?_
  refine s_ret1 rfl rfl ⟨(⟨K2, [.slice a4 (es ++ [(⟨a, c, xs⟩ : SE)]).length c4, .slice ma ms.length mc, .slice pa ps.length pc, .int .i64 (n + 2 * x)], la2, lc2, ls2, wa2, wc2, ws2⟩ : Ob), ⟨a4, c4, es ++ [(⟨a, c, xs⟩ : SE)], ma, mc, ms, pa, pc, ps⟩, x, rfl, rfl, ⟨⟨hok.same, hok.len, hok.small⟩, rfl, by simp only [List.length_append, List.length_cons, List.length_nil]; omega, snoc_small hse hl, hsm, hsp⟩, hx5, hx6, rfl⟩ ?_
  refine Ent.cons (by exact rm) ?_
  refine Ent.trans (H' := .star (ol 22 a4 c4 (es ++ [(⟨a, c, xs⟩ : SE)]) :: [fam 31 es, ol 23 ma mc ms, fam 35 ms, ol 45 pa pc ps, fam 83 ps]) :: ol 31 a c xs :: H) (by exact ent) ?_
  refine Ent.open (Ent.star (L := [_, _, _, _, _, _]) ?_)
  show Ent (ol 22 a4 c4 (es ++ [(⟨a, c, xs⟩ : SE)]) :: fam 31 es :: ol 23 ma mc ms :: fam 35 ms :: ol 45 pa pc ps :: fam 83 ps :: ol 31 a c xs :: H) _
  refine Ent.cons (by exact rm) ?_
  refine Ent.famS (s := (⟨a, c, xs⟩ : SE)) (by exact rm) (by exact rm) ?_
  refine Ent.cons (by exact rm) ?_
  refine Ent.cons (by exact rm) ?_
  refine Ent.cons (by exact rm) ?_
  refine Ent.cons (by exact rm) ?_
  exact Ent.refl
set_option maxHeartbeats 8000000 in
theorem lsMsgs_s {B : Ob} {L : LsT} {n : Int} {cnt rows : Nat} (h : LsOk B L n cnt rows) {a a' : Option Addr} {c c' : Nat} {xs ys : List Mg} (hy : RMs w0 H a' c' ys) (hxy : xs.map Mg.d = ys.map Mg.d) (hz : ∀ e ∈ ys, e.lo.length ≤ 140737488351232 ∧ e.hi.length ≤ 140737488351232 ∧ e.v.length ≤ 140737488351232) (hl : xs.length ≤ 4294967296) (hc : cnt + 3 * xs.length ≤ 2999999999000) (hrw : rows ≤ 2932031007400) (hn : 0 ≤ n ∧ n ≤ 9007199254740992) :
    FnS Tryz.prog w0 (B.ck :: .star L.X :: ol 35 a c xs :: stars oM xs :: H) 96 #[.pointer (some ⟨B.k, 0, none⟩), .slice a xs.length c, .slice a' ys.length c'] (fun v H' => ∃ B' L' x, v = .bool true ∧ B'.k = B.k ∧ LsOk B' L' (n + 2 * x) (cnt + 3 * xs.length) (rows + 1) ∧ (0 ≤ x ∧ x ≤ 1125899906842624) ∧ (x ≤ 2147483647 → x = (sumM (ys.map Mg.d) : Nat)) ∧ H' = B'.ck :: .star L'.X :: H) := by
  obtain ⟨hok, hsf, hrows, hse, hsm, hsp⟩ := h
  obtain ⟨K, sf, la, lc, ls, wa, wc, ws⟩ := B
  obtain ⟨ea, ec, es, ma, mc, ms, pa, pc, ps⟩ := L
  simp only [LsT.sf, LsT.X] at hok hsf hrows hse hsm hsp ⊢
  subst hsf
  have hlen : ys.length = xs.length := by simpa using congrArg List.length hxy.symm
  refine fns_enter Tryz.func96 rfl rfl rfl ?_
  refine s_ent (.hb K 69 (.slice la ls.length lc :: .slice wa ws.length wc :: [.slice ea es.length ec, .slice ma ms.length mc, .slice pa ps.length pc, .int .i64 n]) :: ol 23 ma mc ms :: .star [ol 24 la lc ls, ol 9 wa wc ws, fam 5 ls] :: .star [ol 22 ea ec es, fam 31 es, fam 35 ms, ol 45 pa pc ps, fam 83 ps] :: ol 35 a c xs :: stars oM xs :: H) ?_ ?_
  · refine Ent.open (Ent.head ?_)
    refine Ent.trans (H' := .star [ol 24 la lc ls, ol 9 wa wc ws, fam 5 ls] :: .star [ol 22 ea ec es, fam 31 es, ol 23 ma mc ms, fam 35 ms, ol 45 pa pc ps, fam 83 ps] :: ol 35 a c xs :: stars oM xs :: H) (Ent.star (L := [_, _, _]) Ent.refl) ?_
    refine Ent.trans (Ent.perm (.swap _ _ _)) (Ent.open ?_)
    show Ent (ol 22 ea ec es :: fam 31 es :: ol 23 ma mc ms :: fam 35 ms :: ol 45 pa pc ps :: fam 83 ps :: .star [ol 24 la lc ls, ol 9 wa wc ws, fam 5 ls] :: ol 35 a c xs :: stars oM xs :: H) _
    refine Ent.cons (by exact rm) (Ent.cons (by exact rm) ?_)
    exact Ent.star (L := [_, _, _, _, _]) Ent.refl
  refine sx ?_
  refine s_bsl [(⟨a, c, xs⟩ : SMg)] rfl rfl fun b14 => ?_
  refine s_app (xs := ms) (ys := [(⟨a, c, xs⟩ : SMg)]) ?_ (hby := by simp only [List.length_cons, List.length_nil]; omega)
  intro a4 c4
  refine sx ?_
  have hB1 : Ent (.hb K 69 (.slice la ls.length lc :: .slice wa ws.length wc :: [.slice ea es.length ec, .slice a4 (ms ++ [(⟨a, c, xs⟩ : SMg)]).length c4, .slice pa ps.length pc, .int .i64 n]) :: .star [ol 24 la lc ls, ol 9 wa wc ws, fam 5 ls] :: ol 35 a c xs :: stars oM xs :: .star (ol 23 a4 c4 (ms ++ [(⟨a, c, xs⟩ : SMg)]) :: [ol 22 ea ec es, fam 31 es, fam 35 ms, ol 45 pa pc ps, fam 83 ps]) :: H) (Ob.ck ⟨K, [.slice ea es.length ec, .slice a4 (ms ++ [(⟨a, c, xs⟩ : SMg)]).length c4, .slice pa ps.length pc, .int .i64 n], la, lc, ls, wa, wc, ws⟩ :: stars oM xs :: ol 35 a c xs :: .star (ol 23 a4 c4 (ms ++ [(⟨a, c, xs⟩ : SMg)]) :: [ol 22 ea ec es, fam 31 es, fam 35 ms, ol 45 pa pc ps, fam 83 ps]) :: H) := by
    refine Ent.star (L := [_, _, _, _]) (Ent.head ?_)
    refine Ent.open (L := [_, _, _]) (Ent.head (Ent.head (Ent.head ?_)))
    exact Ent.perm (.swap _ _ _)
  refine s_ent (Ob.ck ⟨K, [.slice ea es.length ec, .slice a4 (ms ++ [(⟨a, c, xs⟩ : SMg)]).length c4, .slice pa ps.length pc, .int .i64 n], la, lc, ls, wa, wc, ws⟩ :: stars oM xs :: ol 35 a c xs :: .star (ol 23 a4 c4 (ms ++ [(⟨a, c, xs⟩ : SMg)]) :: [ol 22 ea ec es, fam 31 es, fam 35 ms, ol 45 pa pc ps, fam 83 ps]) :: H) (Ent.trans ?_ hB1) ?_
  · refine Ent.cons (by exact rm) (Ent.cons (by exact rm) (Ent.cons (by exact rm) (Ent.cons (by exact rm) ?_)))
    exact Ent.star (L := [_, _, _, _, _, _]) (Ent.cons (by exact rm) (Ent.trans (H' := .star [ol 22 ea ec es, fam 31 es, fam 35 ms, ol 45 pa pc ps, fam 83 ps] :: H) (by exact ent) (Ent.open (L := [_, _, _, _, _]) Ent.refl)))
  clear hB1
  refine s_loop (fun q : LsI => [(0, .pointer (some ⟨K, 0, none⟩)), (1, .slice a xs.length c), (2, .slice a' ys.length c'), (7, .int .i64 q.i)]) (fun q => q.B.ck :: stars oM (xs.drop q.i) :: ol 35 a c xs :: .star (ol 23 a4 c4 (ms ++ [(⟨a, c, xs⟩ : SMg)]) :: [ol 22 ea ec es, fam 31 es, fam 35 ms, ol 45 pa pc ps, fam 83 ps]) :: H) (fun q => q.i ≤ xs.length ∧ q.B.k = K ∧ q.B.sf = [.slice ea es.length ec, .slice a4 (ms ++ [(⟨a, c, xs⟩ : SMg)]).length c4, .slice pa ps.length pc, .int .i64 n] ∧ q.B.Ok (cnt + 3 * q.i) ∧ ∀ j e, j < q.i → xs[j]? = some e → HdM q.B e) (fun q => xs.length - q.i) ⟨0, ⟨K, [.slice ea es.length ec, .slice a4 (ms ++ [(⟨a, c, xs⟩ : SMg)]).length c4, .slice pa ps.length pc, .int .i64 n], la, lc, ls, wa, wc, ws⟩⟩ ⟨Nat.zero_le _, rfl, rfl, ⟨hok.same, hok.len, hok.small⟩, fun j e hj _ => absurd hj (Nat.not_lt_zero _)⟩ ?_ (he := Ent.refl)
  clear hok
  rintro ⟨i, B⟩ ⟨h1, hk, hsf, hok, hhd⟩
  simp only at h1 hk hsf hok hhd ⊢
  refine sx ?_
  refine s_lif rfl (fun t1 => ?_) (fun t1 => ?_)
  · obtain ⟨e5, he5⟩ := get_lt xs i (by omega)
    obtain ⟨e6, he6⟩ := get_lt ys i (by omega)
    have hee : Mg.d e5 = Mg.d e6 := by
      have q1 := get_map (f := Mg.d) he5
      rw [hxy, get_map (f := Mg.d) he6] at q1
      exact (Option.some.inj q1).symm
    obtain ⟨hx1, hx2, hx3⟩ : e5.lo = e6.lo ∧ e5.hi = e6.hi ∧ e5.v = e6.v := by simp only [Mg.d, MD.mk.injEq] at hee; exact ⟨hee.2.2.1, hee.2.2.2.1, hee.2.2.2.2⟩
    have m6 := List.mem_of_getElem? he6
    have z6 := hz e6 m6
    obtain ⟨z1, z2, z3⟩ := z6
    rw [← hx1] at z1
    rw [← hx2] at z2
    rw [← hx3] at z3
    have r6 : RMg w0 H e6 := hy.el e6 m6
    have hy2 := hy.sl.tl (d := ol 35 a c xs)
    refine sx ?_
    refine s_if rfl (fun t2 => ?_) (fun t2 => absurd (by omega) t2)
    have hd : xs.drop i = e5 :: xs.drop (i + 1) := by
      obtain ⟨h7, h8⟩ := List.getElem?_eq_some_iff.1 he5
      rw [List.drop_eq_getElem_cons h7, h8]
    refine s_ent (ob e5.la e5.lc e5.lo :: B.ck :: ob e5.ha e5.hc e5.hi :: ob e5.va e5.vc e5.v :: stars oM (xs.drop (i + 1)) :: ol 35 a c xs :: .star (ol 23 a4 c4 (ms ++ [(⟨a, c, xs⟩ : SMg)]) :: [ol 22 ea ec es, fam 31 es, fam 35 ms, ol 45 pa pc ps, fam 83 ps]) :: H) ?_ ?_
    · rw [hd]
      refine Ent.trans (Ent.perm (.swap _ _ _)) (stars_cons.trans ?_)
      show Ent (ob e5.la e5.lc e5.lo :: ob e5.ha e5.hc e5.hi :: ob e5.va e5.vc e5.v :: stars oM (xs.drop (i + 1)) :: B.ck :: _) _
      exact entq
    refine sx ?_
    refine s_drH (ol 35 a c xs :: H) (.one true 0 (.one true 1 (.one true 2 (.one true 3 (.one true 4 (.one true 5 (.one true 6 (.one true 7 (.one true 8 (.one true 9 (.one true 10 (.one true 11 (.one true 12 (.one false 13 .nil)))))))))))))) mixed (by kernel_rfl) ?_ (he := by exact ent)
    refine sx ?_
    refine s_rw (t := 32) (v' := .pointer (some ⟨B.k, 0, none⟩)) rfl (by rw [hk]; rfl) ?_
    refine s_rw (t := 42) (v' := .slice e6.la e5.lo.length e6.lc) rfl (by rw [hx1]) ?_
    refine s_call rfl (holdB_s (a := e5.la) (c := e5.lc) (xs := e5.lo) hok (by omega) (by omega) (by rw [hx1]; exact r6.lo.ent (Ent.dropL [_, _, _, _, _]))) ?_
    rintro _ _ ⟨B1, rfl, k1, sf1, ok1, up1, in1⟩
    refine ⟨chk_held (by exact ent), ?_⟩
    refine sx ?_
    refine s_drH (ol 35 a c xs :: H) (.one true 0 (.one true 1 (.one true 2 (.one true 3 (.one true 4 (.one true 5 (.one true 6 (.one true 7 (.one true 8 (.one true 9 (.one true 10 (.one true 11 (.one true 12 (.one false 13 .nil)))))))))))))) mixed (by kernel_rfl) ?_ (he := by exact ent)
    refine sx ?_
    refine s_rw (t := 46) (v' := .pointer (some ⟨B1.k, 0, none⟩)) rfl (by rw [k1, hk]; rfl) ?_
    refine s_rw (t := 56) (v' := .slice e6.ha e5.hi.length e6.hc) rfl (by rw [hx2]) ?_
    refine s_entL (ob e5.ha e5.hc e5.hi :: B1.ck :: ob e5.va e5.vc e5.v :: stars oM (xs.drop (i + 1)) :: ol 35 a c xs :: .star (ol 23 a4 c4 (ms ++ [(⟨a, c, xs⟩ : SMg)]) :: [ol 22 ea ec es, fam 31 es, fam 35 ms, ol 45 pa pc ps, fam 83 ps]) :: H) (by exact entq) ?_
    refine s_call rfl (holdB_s (a := e5.ha) (c := e5.hc) (xs := e5.hi) ok1 (by omega) (by omega) (by rw [hx2]; exact r6.hi.ent (Ent.dropL [_, _, _, _]))) ?_
    rintro _ _ ⟨B2, rfl, k2, sf2, ok2, up2, in2⟩
    refine ⟨chk_held (by exact ent), ?_⟩
    refine sx ?_
    refine s_drH (ol 35 a c xs :: H) (.one true 0 (.one true 1 (.one true 2 (.one true 3 (.one true 4 (.one true 5 (.one true 6 (.one true 7 (.one true 8 (.one true 9 (.one true 10 (.one true 11 (.one true 12 (.one false 13 .nil)))))))))))))) mixed (by kernel_rfl) ?_ (he := by exact ent)
    refine sx ?_
    refine s_rw (t := 60) (v' := .pointer (some ⟨B2.k, 0, none⟩)) rfl (by rw [k2, k1, hk]; rfl) ?_
    refine s_rw (t := 70) (v' := .slice e6.va e5.v.length e6.vc) rfl (by rw [hx3]) ?_
    refine s_entL (ob e5.va e5.vc e5.v :: B2.ck :: stars oM (xs.drop (i + 1)) :: ol 35 a c xs :: .star (ol 23 a4 c4 (ms ++ [(⟨a, c, xs⟩ : SMg)]) :: [ol 22 ea ec es, fam 31 es, fam 35 ms, ol 45 pa pc ps, fam 83 ps]) :: H) (by exact entq) ?_
    refine s_call rfl (holdB_s (a := e5.va) (c := e5.vc) (xs := e5.v) ok2 (by omega) (by omega) (by rw [hx3]; exact r6.v.ent (Ent.dropL [_, _, _]))) ?_
    rintro _ _ ⟨B3, rfl, k3, sf3, ok3, up3, in3⟩
    refine ⟨chk_held (by exact ent), ?_⟩
    refine sx ?_
    have hup : ∀ t ∈ B.ls, t ∈ B3.ls := fun t ht => up3 _ (up2 _ (up1 _ (ht)))
    refine s_again ⟨i + 1, B3⟩ ⟨by simp only; omega, by show B3.k = K; rw [k3, k2, k1, hk], by show B3.sf = _; rw [sf3, sf2, sf1, hsf], ?_, ?_⟩ (by simp only; omega) (he := Ent.refl)
    · show B3.Ok (cnt + 3 * (i + 1))
      exact ⟨ok3.same, by have := ok3.len; omega, ok3.small⟩
    · intro j e hj hje
      simp only at hj ⊢
      by_cases hji : j < i
      · exact (hhd j e hji hje).mono hup
      · obtain rfl : j = i := by omega
        rw [he5] at hje
        cases hje
        exact ⟨up3 _ (up2 _ (in1)), up3 _ (in2), in3⟩
  obtain rfl : i = xs.length := by omega
  have hall : ∀ e ∈ xs, HdM B e := fun e he => by
    obtain ⟨j, hj⟩ := List.getElem?_of_mem he
    exact hhd j e (List.getElem?_eq_some_iff.1 hj).1 hj
  clear hhd t1
  refine sx ?_
  obtain ⟨K2, sf2, la2, lc2, ls2, wa2, wc2, ws2⟩ := B
  simp only at hk hsf hok hall
  subst hk
  subst hsf
  refine s_ent (.hb K2 69 (.slice la2 ls2.length lc2 :: .slice wa2 ws2.length wc2 :: [.slice ea es.length ec, .slice a4 (ms ++ [(⟨a, c, xs⟩ : SMg)]).length c4, .slice pa ps.length pc, .int .i64 n]) :: .star [ol 24 la2 lc2 ls2, ol 9 wa2 wc2 ws2, fam 5 ls2] :: ol 35 a c xs :: .star (ol 23 a4 c4 (ms ++ [(⟨a, c, xs⟩ : SMg)]) :: [ol 22 ea ec es, fam 31 es, fam 35 ms, ol 45 pa pc ps, fam 83 ps]) :: H) ?_ ?_
  · refine Ent.open (Ent.head ?_)
    refine Ent.star (L := [_, _, _]) (Ent.head (Ent.head (Ent.head ?_)))
    exact Ent.tl Ent.refl
  refine sx ?_
  refine s_drU (.hb K2 69 (.slice la2 ls2.length lc2 :: .slice wa2 ws2.length wc2 :: [.slice ea es.length ec, .slice a4 (ms ++ [(⟨a, c, xs⟩ : SMg)]).length c4, .slice pa ps.length pc, .int .i64 n]) :: []) (.one true 0 (.one true 1 (.one true 2 (.one true 3 (.one true 4 (.one true 5 (.one false 6 (.one true 7 (.one true 8 (.one true 9 (.one true 10 .nil))))))))))) (.one false 11 .nil) [11] #[true, true, true, true, true, true, true, true, true, true, true, false] mixed (by kernel_rfl) ?_
  refine sx ?_
  refine s_call rfl (lweights_s (ms := ys) (hy.ent (Ent.dropL [_, _, _, _])) (fun e he => by have := hz e he; omega)) ?_
  rintro _ H2 ⟨x, rfl, hx5, hx6, hH⟩
  rw [hH]
  clear hH
  refine ⟨chk_held (by exact ent), ?_⟩
  refine sx ?_
  refine s_bar ?_
  refine sx ?_
  have hcl : Ent (.hb K2 69 (.slice la2 ls2.length lc2 :: .slice wa2 ws2.length wc2 :: [.slice ea es.length ec, .slice a4 (ms ++ [(⟨a, c, xs⟩ : SMg)]).length c4, .slice pa ps.length pc, .int .i64 (n + 2 * x)]) :: .star [ol 24 la2 lc2 ls2, ol 9 wa2 wc2 ws2, fam 5 ls2] :: ol 35 a c xs :: .star (ol 23 a4 c4 (ms ++ [(⟨a, c, xs⟩ : SMg)]) :: [ol 22 ea ec es, fam 31 es, fam 35 ms, ol 45 pa pc ps, fam 83 ps]) :: H) (Ob.ck (⟨K2, [.slice ea es.length ec, .slice a4 (ms ++ [(⟨a, c, xs⟩ : SMg)]).length c4, .slice pa ps.length pc, .int .i64 (n + 2 * x)], la2, lc2, ls2, wa2, wc2, ws2⟩ : Ob) :: ol 35 a c xs :: .star (ol 23 a4 c4 (ms ++ [(⟨a, c, xs⟩ : SMg)]) :: [ol 22 ea ec es, fam 31 es, fam 35 ms, ol 45 pa pc ps, fam 83 ps]) :: H) := by
    refine Ent.star (L := [_, _, _, _]) (Ent.head ?_)
    exact Ent.open (L := [_, _, _]) Ent.refl
  refine s_entL (Ob.ck (⟨K2, [.slice ea es.length ec, .slice a4 (ms ++ [(⟨a, c, xs⟩ : SMg)]).length c4, .slice pa ps.length pc, .int .i64 (n + 2 * x)], la2, lc2, ls2, wa2, wc2, ws2⟩ : Ob) :: ol 35 a c xs :: .star (ol 23 a4 c4 (ms ++ [(⟨a, c, xs⟩ : SMg)]) :: [ol 22 ea ec es, fam 31 es, fam 35 ms, ol 45 pa pc ps, fam 83 ps]) :: H) (Ent.trans (by exact ent) hcl) ?_
  clear hcl
  refine s_callV rfl (lsameMs_s (xs := xs) (ys := ys) ⟨RSl.hd.tl, fun e he => ⟨obk_by (B := (⟨K2, [.slice ea es.length ec, .slice a4 (ms ++ [(⟨a, c, xs⟩ : SMg)]).length c4, .slice pa ps.length pc, .int .i64 (n + 2 * x)], la2, lc2, ls2, wa2, wc2, ws2⟩ : Ob)) (hall e he).1, obk_by (B := (⟨K2, [.slice ea es.length ec, .slice a4 (ms ++ [(⟨a, c, xs⟩ : SMg)]).length c4, .slice pa ps.length pc, .int .i64 (n + 2 * x)], la2, lc2, ls2, wa2, wc2, ws2⟩ : Ob)) (hall e he).2.1, obk_by (B := (⟨K2, [.slice ea es.length ec, .slice a4 (ms ++ [(⟨a, c, xs⟩ : SMg)]).length c4, .slice pa ps.length pc, .int .i64 (n + 2 * x)], la2, lc2, ls2, wa2, wc2, ws2⟩ : Ob)) (hall e he).2.2⟩⟩ (hy.ent (Ent.dropL [_, _, _]))) ?_
  rw [decide_eq_true hxy]
  refine sx ?_
  refine s_ret1 rfl rfl ⟨(⟨K2, [.slice ea es.length ec, .slice a4 (ms ++ [(⟨a, c, xs⟩ : SMg)]).length c4, .slice pa ps.length pc, .int .i64 (n + 2 * x)], la2, lc2, ls2, wa2, wc2, ws2⟩ : Ob), ⟨ea, ec, es, a4, c4, ms ++ [(⟨a, c, xs⟩ : SMg)], pa, pc, ps⟩, x, rfl, rfl, ⟨⟨hok.same, hok.len, hok.small⟩, rfl, by simp only [List.length_append, List.length_cons, List.length_nil]; omega, hse, snoc_small hsm hl, hsp⟩, hx5, hx6, rfl⟩ ?_
  refine Ent.cons (by exact rm) ?_
  refine Ent.trans (H' := .star (ol 23 a4 c4 (ms ++ [(⟨a, c, xs⟩ : SMg)]) :: [ol 22 ea ec es, fam 31 es, fam 35 ms, ol 45 pa pc ps, fam 83 ps]) :: ol 35 a c xs :: H) (by exact ent) ?_
  refine Ent.open (Ent.star (L := [_, _, _, _, _, _]) ?_)
  show Ent (ol 23 a4 c4 (ms ++ [(⟨a, c, xs⟩ : SMg)]) :: ol 22 ea ec es :: fam 31 es :: fam 35 ms :: ol 45 pa pc ps :: fam 83 ps :: ol 35 a c xs :: H) _
  refine Ent.cons (by exact rm) ?_
  refine Ent.cons (by exact rm) ?_
  refine Ent.cons (by exact rm) ?_
  refine Ent.famS (s := (⟨a, c, xs⟩ : SMg)) (by exact rm) (by exact rm) ?_
  refine Ent.cons (by exact rm) ?_
  refine Ent.cons (by exact rm) ?_
  exact Ent.refl
set_option maxHeartbeats 8000000 in
theorem lsPieces_s {B : Ob} {L : LsT} {n : Int} {cnt rows : Nat} (h : LsOk B L n cnt rows) {a a' : Option Addr} {c c' : Nat} {xs ys : List Pc} (hy : RSl w0 H a' c' ys) (hr : ∀ e ∈ ys, RPc w0 H e) (hxa : ∀ p ∈ xs, p.g.all = false) (hxy : xs.map Pc.d = ys.map Pc.d) (hz : ∀ e ∈ ys, e.key.length ≤ 140737488351232 ∧ e.v.length ≤ 140737488351232 ∧ e.g.lo.length ≤ 140737488351232 ∧ e.g.hi.length ≤ 140737488351232) (hl : xs.length ≤ 4294967296) (hc : cnt + 4 * xs.length ≤ 2999999999000) (hrw : rows ≤ 2932031007400) :
    FnS Tryz.prog w0 (B.ck :: .star L.X :: ol 83 a c xs :: stars oP xs :: H) 94 #[.pointer (some ⟨B.k, 0, none⟩), .slice a xs.length c, .slice a' ys.length c'] (fun v H' => ∃ B' L', v = .bool true ∧ B'.k = B.k ∧ LsOk B' L' n (cnt + 4 * xs.length) (rows + 1) ∧ H' = B'.ck :: .star L'.X :: H) := by
  obtain ⟨hok, hsf, hrows, hse, hsm, hsp⟩ := h
  obtain ⟨K, sf, la, lc, ls, wa, wc, ws⟩ := B
  obtain ⟨ea, ec, es, ma, mc, ms, pa, pc, ps⟩ := L
  simp only [LsT.sf, LsT.X] at hok hsf hrows hse hsm hsp ⊢
  subst hsf
  have hlen : ys.length = xs.length := by simpa using congrArg List.length hxy.symm
  refine fns_enter Tryz.func94 rfl rfl rfl ?_
  refine s_ent (.hb K 69 (.slice la ls.length lc :: .slice wa ws.length wc :: [.slice ea es.length ec, .slice ma ms.length mc, .slice pa ps.length pc, .int .i64 n]) :: ol 45 pa pc ps :: .star [ol 24 la lc ls, ol 9 wa wc ws, fam 5 ls] :: .star [ol 22 ea ec es, fam 31 es, ol 23 ma mc ms, fam 35 ms, fam 83 ps] :: ol 83 a c xs :: stars oP xs :: H) ?_ ?_
  · refine Ent.open (Ent.head ?_)
    refine Ent.trans (H' := .star [ol 24 la lc ls, ol 9 wa wc ws, fam 5 ls] :: .star [ol 22 ea ec es, fam 31 es, ol 23 ma mc ms, fam 35 ms, ol 45 pa pc ps, fam 83 ps] :: ol 83 a c xs :: stars oP xs :: H) (Ent.star (L := [_, _, _]) Ent.refl) ?_
    refine Ent.trans (Ent.perm (.swap _ _ _)) (Ent.open ?_)
    show Ent (ol 22 ea ec es :: fam 31 es :: ol 23 ma mc ms :: fam 35 ms :: ol 45 pa pc ps :: fam 83 ps :: .star [ol 24 la lc ls, ol 9 wa wc ws, fam 5 ls] :: ol 83 a c xs :: stars oP xs :: H) _
    refine Ent.cons (by exact rm) (Ent.cons (by exact rm) ?_)
    exact Ent.star (L := [_, _, _, _, _]) Ent.refl
  refine sx ?_
  refine s_bsl [(⟨a, c, xs⟩ : SPc)] rfl rfl fun b14 => ?_
  refine s_app (xs := ps) (ys := [(⟨a, c, xs⟩ : SPc)]) ?_ (hby := by simp only [List.length_cons, List.length_nil]; omega)
  intro a4 c4
  refine sx ?_
  have hB1 : Ent (.hb K 69 (.slice la ls.length lc :: .slice wa ws.length wc :: [.slice ea es.length ec, .slice ma ms.length mc, .slice a4 (ps ++ [(⟨a, c, xs⟩ : SPc)]).length c4, .int .i64 n]) :: .star [ol 24 la lc ls, ol 9 wa wc ws, fam 5 ls] :: ol 83 a c xs :: stars oP xs :: .star (ol 45 a4 c4 (ps ++ [(⟨a, c, xs⟩ : SPc)]) :: [ol 22 ea ec es, fam 31 es, ol 23 ma mc ms, fam 35 ms, fam 83 ps]) :: H) (Ob.ck ⟨K, [.slice ea es.length ec, .slice ma ms.length mc, .slice a4 (ps ++ [(⟨a, c, xs⟩ : SPc)]).length c4, .int .i64 n], la, lc, ls, wa, wc, ws⟩ :: stars oP xs :: ol 83 a c xs :: .star (ol 45 a4 c4 (ps ++ [(⟨a, c, xs⟩ : SPc)]) :: [ol 22 ea ec es, fam 31 es, ol 23 ma mc ms, fam 35 ms, fam 83 ps]) :: H) := by
    refine Ent.star (L := [_, _, _, _]) (Ent.head ?_)
    refine Ent.open (L := [_, _, _]) (Ent.head (Ent.head (Ent.head ?_)))
    exact Ent.perm (.swap _ _ _)
  refine s_ent (Ob.ck ⟨K, [.slice ea es.length ec, .slice ma ms.length mc, .slice a4 (ps ++ [(⟨a, c, xs⟩ : SPc)]).length c4, .int .i64 n], la, lc, ls, wa, wc, ws⟩ :: stars oP xs :: ol 83 a c xs :: .star (ol 45 a4 c4 (ps ++ [(⟨a, c, xs⟩ : SPc)]) :: [ol 22 ea ec es, fam 31 es, ol 23 ma mc ms, fam 35 ms, fam 83 ps]) :: H) (Ent.trans ?_ hB1) ?_
  · refine Ent.cons (by exact rm) (Ent.cons (by exact rm) (Ent.cons (by exact rm) (Ent.cons (by exact rm) ?_)))
    exact Ent.star (L := [_, _, _, _, _, _]) (Ent.cons (by exact rm) (Ent.trans (H' := .star [ol 22 ea ec es, fam 31 es, ol 23 ma mc ms, fam 35 ms, fam 83 ps] :: H) (by exact ent) (Ent.open (L := [_, _, _, _, _]) Ent.refl)))
  clear hB1
  refine s_loop (fun q : LsI => [(0, .pointer (some ⟨K, 0, none⟩)), (1, .slice a xs.length c), (2, .slice a' ys.length c'), (7, .int .i64 q.i)]) (fun q => q.B.ck :: stars oP (xs.drop q.i) :: ol 83 a c xs :: .star (ol 45 a4 c4 (ps ++ [(⟨a, c, xs⟩ : SPc)]) :: [ol 22 ea ec es, fam 31 es, ol 23 ma mc ms, fam 35 ms, fam 83 ps]) :: H) (fun q => q.i ≤ xs.length ∧ q.B.k = K ∧ q.B.sf = [.slice ea es.length ec, .slice ma ms.length mc, .slice a4 (ps ++ [(⟨a, c, xs⟩ : SPc)]).length c4, .int .i64 n] ∧ q.B.Ok (cnt + 4 * q.i) ∧ ∀ j e, j < q.i → xs[j]? = some e → HdP q.B e) (fun q => xs.length - q.i) ⟨0, ⟨K, [.slice ea es.length ec, .slice ma ms.length mc, .slice a4 (ps ++ [(⟨a, c, xs⟩ : SPc)]).length c4, .int .i64 n], la, lc, ls, wa, wc, ws⟩⟩ ⟨Nat.zero_le _, rfl, rfl, ⟨hok.same, hok.len, hok.small⟩, fun j e hj _ => absurd hj (Nat.not_lt_zero _)⟩ ?_ (he := Ent.refl)
  clear hok
  rintro ⟨i, B⟩ ⟨h1, hk, hsf, hok, hhd⟩
  simp only at h1 hk hsf hok hhd ⊢
  refine sx ?_
  refine s_lif rfl (fun t1 => ?_) (fun t1 => ?_)
  · obtain ⟨e5, he5⟩ := get_lt xs i (by omega)
    obtain ⟨e6, he6⟩ := get_lt ys i (by omega)
    have hee : Pc.d e5 = Pc.d e6 := by
      have q1 := get_map (f := Pc.d) he5
      rw [hxy, get_map (f := Pc.d) he6] at q1
      exact (Option.some.inj q1).symm
    obtain ⟨hx1, hx2, hx3, hx4⟩ : e5.key = e6.key ∧ e5.v = e6.v ∧ e5.g.lo = e6.g.lo ∧ e5.g.hi = e6.g.hi := by simp only [Pc.d, Rg.d, PD.mk.injEq, Prod.mk.injEq] at hee; exact ⟨hee.2.1, hee.2.2.1, hee.2.2.2.1, hee.2.2.2.2.1⟩
    have m6 := List.mem_of_getElem? he6
    have z6 := hz e6 m6
    obtain ⟨z1, z2, z3, z4⟩ := z6
    rw [← hx1] at z1
    rw [← hx2] at z2
    rw [← hx3] at z3
    rw [← hx4] at z4
    have r6 : RPc w0 H e6 := hr e6 m6
    have hy2 := hy.tl (d := ol 83 a c xs)
    refine sx ?_
    refine s_if rfl (fun t2 => ?_) (fun t2 => absurd (by omega) t2)
    have hd : xs.drop i = e5 :: xs.drop (i + 1) := by
      obtain ⟨h7, h8⟩ := List.getElem?_eq_some_iff.1 he5
      rw [List.drop_eq_getElem_cons h7, h8]
    refine s_ent (ob e5.ka e5.kc e5.key :: B.ck :: ob e5.va e5.vc e5.v :: ob e5.g.la e5.g.lc e5.g.lo :: ob e5.g.ha e5.g.hc e5.g.hi :: stars oP (xs.drop (i + 1)) :: ol 83 a c xs :: .star (ol 45 a4 c4 (ps ++ [(⟨a, c, xs⟩ : SPc)]) :: [ol 22 ea ec es, fam 31 es, ol 23 ma mc ms, fam 35 ms, fam 83 ps]) :: H) ?_ ?_
    · rw [hd]
      refine Ent.trans (Ent.perm (.swap _ _ _)) (stars_cons.trans ?_)
      show Ent (ob e5.ka e5.kc e5.key :: ob e5.va e5.vc e5.v :: ob e5.g.la e5.g.lc e5.g.lo :: ob e5.g.ha e5.g.hc e5.g.hi :: stars oP (xs.drop (i + 1)) :: B.ck :: _) _
      exact entq
    refine sx ?_
    refine s_drH (ol 83 a c xs :: H) (.one true 0 (.one true 1 (.one true 2 (.one true 3 (.one true 4 (.one true 5 (.one true 6 (.one true 7 (.one true 8 (.one true 9 (.one true 10 (.one true 11 (.one true 12 (.one false 13 .nil)))))))))))))) mixed (by kernel_rfl) ?_ (he := by exact ent)
    refine sx ?_
    refine s_rw (t := 32) (v' := .pointer (some ⟨B.k, 0, none⟩)) rfl (by rw [hk]; rfl) ?_
    refine s_rw (t := 42) (v' := .slice e6.ka e5.key.length e6.kc) rfl (by rw [hx1]) ?_
    refine s_call rfl (holdB_s (a := e5.ka) (c := e5.kc) (xs := e5.key) hok (by omega) (by omega) (by rw [hx1]; exact r6.key.ent (Ent.dropL [_, _, _, _, _, _]))) ?_
    rintro _ _ ⟨B1, rfl, k1, sf1, ok1, up1, in1⟩
    refine ⟨chk_held (by exact ent), ?_⟩
    refine sx ?_
    refine s_drH (ol 83 a c xs :: H) (.one true 0 (.one true 1 (.one true 2 (.one true 3 (.one true 4 (.one true 5 (.one true 6 (.one true 7 (.one true 8 (.one true 9 (.one true 10 (.one true 11 (.one true 12 (.one false 13 .nil)))))))))))))) mixed (by kernel_rfl) ?_ (he := by exact ent)
    refine sx ?_
    refine s_rw (t := 46) (v' := .pointer (some ⟨B1.k, 0, none⟩)) rfl (by rw [k1, hk]; rfl) ?_
    refine s_rw (t := 56) (v' := .slice e6.va e5.v.length e6.vc) rfl (by rw [hx2]) ?_
    refine s_entL (ob e5.va e5.vc e5.v :: B1.ck :: ob e5.g.la e5.g.lc e5.g.lo :: ob e5.g.ha e5.g.hc e5.g.hi :: stars oP (xs.drop (i + 1)) :: ol 83 a c xs :: .star (ol 45 a4 c4 (ps ++ [(⟨a, c, xs⟩ : SPc)]) :: [ol 22 ea ec es, fam 31 es, ol 23 ma mc ms, fam 35 ms, fam 83 ps]) :: H) (by exact entq) ?_
    refine s_call rfl (holdB_s (a := e5.va) (c := e5.vc) (xs := e5.v) ok1 (by omega) (by omega) (by rw [hx2]; exact r6.v.ent (Ent.dropL [_, _, _, _, _]))) ?_
    rintro _ _ ⟨B2, rfl, k2, sf2, ok2, up2, in2⟩
    refine ⟨chk_held (by exact ent), ?_⟩
    refine sx ?_
    refine s_drH (ol 83 a c xs :: H) (.one true 0 (.one true 1 (.one true 2 (.one true 3 (.one true 4 (.one true 5 (.one true 6 (.one true 7 (.one true 8 (.one true 9 (.one true 10 (.one true 11 (.one true 12 (.one true 13 (.one true 14 (.one false 15 .nil)))))))))))))))) mixed (by kernel_rfl) ?_ (he := by exact ent)
    refine sx ?_
    refine s_rw (t := 65) (v' := .pointer (some ((gA a).add (i * 6) |>.add 3))) rfl rfl ?_
    refine sx ?_
    refine s_rw (t := 71) (v' := .pointer (some ((gA a').add (i * 6) |>.add 3))) rfl rfl ?_
    refine sx ?_
    refine s_rw (t := 60) (v' := .pointer (some ⟨B2.k, 0, none⟩)) rfl (by rw [k2, k1, hk]; rfl) ?_
    refine s_rw (t := 72) (v' := .slice e6.g.la e5.g.lo.length e6.g.lc) rfl (by rw [hx3]) ?_
    refine s_entL (ob e5.g.la e5.g.lc e5.g.lo :: B2.ck :: ob e5.g.ha e5.g.hc e5.g.hi :: stars oP (xs.drop (i + 1)) :: ol 83 a c xs :: .star (ol 45 a4 c4 (ps ++ [(⟨a, c, xs⟩ : SPc)]) :: [ol 22 ea ec es, fam 31 es, ol 23 ma mc ms, fam 35 ms, fam 83 ps]) :: H) (by exact entq) ?_
    refine s_call rfl (holdB_s (a := e5.g.la) (c := e5.g.lc) (xs := e5.g.lo) ok2 (by omega) (by omega) (by rw [hx3]; exact r6.g.lo.ent (Ent.dropL [_, _, _, _]))) ?_
    rintro _ _ ⟨B3, rfl, k3, sf3, ok3, up3, in3⟩
    refine ⟨chk_held (by exact ent), ?_⟩
    refine sx ?_
    refine s_drH (ol 83 a c xs :: H) (.one true 0 (.one true 1 (.one true 2 (.one true 3 (.one true 4 (.one true 5 (.one true 6 (.one true 7 (.one true 8 (.one true 9 (.one true 10 (.one true 11 (.one true 12 (.one true 13 (.one true 14 (.one false 15 .nil)))))))))))))))) mixed (by kernel_rfl) ?_ (he := by exact ent)
    refine sx ?_
    refine s_rw (t := 81) (v' := .pointer (some ((gA a).add (i * 6) |>.add 4))) rfl rfl ?_
    refine sx ?_
    refine s_rw (t := 87) (v' := .pointer (some ((gA a').add (i * 6) |>.add 4))) rfl rfl ?_
    refine sx ?_
    refine s_rw (t := 76) (v' := .pointer (some ⟨B3.k, 0, none⟩)) rfl (by rw [k3, k2, k1, hk]; rfl) ?_
    refine s_rw (t := 88) (v' := .slice e6.g.ha e5.g.hi.length e6.g.hc) rfl (by rw [hx4]) ?_
    refine s_entL (ob e5.g.ha e5.g.hc e5.g.hi :: B3.ck :: stars oP (xs.drop (i + 1)) :: ol 83 a c xs :: .star (ol 45 a4 c4 (ps ++ [(⟨a, c, xs⟩ : SPc)]) :: [ol 22 ea ec es, fam 31 es, ol 23 ma mc ms, fam 35 ms, fam 83 ps]) :: H) (by exact entq) ?_
    refine s_call rfl (holdB_s (a := e5.g.ha) (c := e5.g.hc) (xs := e5.g.hi) ok3 (by omega) (by omega) (by rw [hx4]; exact r6.g.hi.ent (Ent.dropL [_, _, _]))) ?_
    rintro _ _ ⟨B4, rfl, k4, sf4, ok4, up4, in4⟩
    refine ⟨chk_held (by exact ent), ?_⟩
    refine sx ?_
    have hup : ∀ t ∈ B.ls, t ∈ B4.ls := fun t ht => up4 _ (up3 _ (up2 _ (up1 _ (ht))))
    refine s_again ⟨i + 1, B4⟩ ⟨by simp only; omega, by show B4.k = K; rw [k4, k3, k2, k1, hk], by show B4.sf = _; rw [sf4, sf3, sf2, sf1, hsf], ?_, ?_⟩ (by simp only; omega) (he := Ent.refl)
    · show B4.Ok (cnt + 4 * (i + 1))
      exact ⟨ok4.same, by have := ok4.len; omega, ok4.small⟩
    · intro j e hj hje
      simp only at hj ⊢
      by_cases hji : j < i
      · exact (hhd j e hji hje).mono hup
      · obtain rfl : j = i := by omega
        rw [he5] at hje
        cases hje
        exact ⟨up4 _ (up3 _ (up2 _ (in1))), up4 _ (up3 _ (in2)), up4 _ (in3), in4⟩
  obtain rfl : i = xs.length := by omega
  have hall : ∀ e ∈ xs, HdP B e := fun e he => by
    obtain ⟨j, hj⟩ := List.getElem?_of_mem he
    exact hhd j e (List.getElem?_eq_some_iff.1 hj).1 hj
  clear hhd t1
  refine sx ?_
  refine s_callV rfl (lsamePs_s (xs := xs) (ys := ys) RSl.hd.tl.tl (fun e he => ⟨obk_by (B := B) (hall e he).1, obk_by (B := B) (hall e he).2.1, ⟨obk_by (B := B) (hall e he).2.2.1, obk_by (B := B) (hall e he).2.2.2⟩⟩) (hy.ent (Ent.dropL [_, _, _, _])) (fun e he => (hr e he).ent (Ent.dropL [_, _, _, _])) hxa hxy) ?_
  refine sx ?_
  refine s_ret1 rfl rfl ⟨B, ⟨ea, ec, es, ma, mc, ms, a4, c4, ps ++ [(⟨a, c, xs⟩ : SPc)]⟩, rfl, hk, ⟨⟨hok.same, hok.len, hok.small⟩, hsf, by simp only [List.length_append, List.length_cons, List.length_nil]; omega, hse, hsm, snoc_small hsp hl⟩, rfl⟩ ?_
  refine Ent.cons (by exact rm) ?_
  refine Ent.trans (H' := .star (ol 45 a4 c4 (ps ++ [(⟨a, c, xs⟩ : SPc)]) :: [ol 22 ea ec es, fam 31 es, ol 23 ma mc ms, fam 35 ms, fam 83 ps]) :: ol 83 a c xs :: H) (by exact ent) ?_
  refine Ent.open (Ent.star (L := [_, _, _, _, _, _]) ?_)
  show Ent (ol 45 a4 c4 (ps ++ [(⟨a, c, xs⟩ : SPc)]) :: ol 22 ea ec es :: fam 31 es :: ol 23 ma mc ms :: fam 35 ms :: fam 83 ps :: ol 83 a c xs :: H) _
  refine Ent.cons (by exact rm) ?_
  refine Ent.cons (by exact rm) ?_
  refine Ent.cons (by exact rm) ?_
  refine Ent.cons (by exact rm) ?_
  refine Ent.cons (by exact rm) ?_
  refine Ent.famS (s := (⟨a, c, xs⟩ : SPc)) (by exact rm) (by exact rm) ?_
  exact Ent.refl
end Go.Sx

