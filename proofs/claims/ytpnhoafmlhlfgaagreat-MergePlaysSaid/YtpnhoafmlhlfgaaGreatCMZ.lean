/- Part of a proof: a telling is ranged over, and what it tells is kept. -/
import Derived.Test.YtpnhoafmlhlfgaaGreatCMM
import Derived.Test.YtpnhoafmlhlfgaaGreatCMC
import Derived.Test.YtpnhoafmlhlfgaaGreatCPGj
namespace Go.Sx
open Go Go.Proofs
set_option maxRecDepth 10000
section
variable {P : Program} {S : World → Prop} {l : List (Nat × Value)} {d : Option Nat} {ty : TypeId} {pos : String} {af : Array Edge} {g : Option (Nat × Bool)}
theorem y_addI {x y : Operand} {T U : TypeId} {a b : Int} (hx : ev l x = some (.int .i64 a)) (hy : ev l y = some (.int .i64 b)) :
    Y P S ⟨d, .binOp .add T x y U, ty, pos, af, g⟩ l (.int .i64 (IntKind.i64.wrap (a + b))) := .mk fun w _ ρ hρ => by
  simp [execOp, hρ _ _ hx, hρ _ _ hy, go_sem, Op.intArith]
end
variable {w0 : World} {H : List Ck}
theorem Ent.dropL' : ∀ (L : List Ck) {H : List Ck}, Ent (L ++ H) L
  | [], _ => Ent.nil
  | _ :: L, _ => Ent.head (Ent.dropL' L)
theorem st_mid {g l d : Ck} {R : List Ck} : Ent [g, .star (l :: d :: R)] (l :: d :: g :: R) := by
  refine Ent.trans (Ent.perm (.swap _ _ _)) (Ent.open ?_)
  refine Ent.head (Ent.head ?_)
  exact Ent.perm (List.perm_append_singleton g R)
/-- The world: its book, and what else stands in it. -/
structure Wd (B : Ob) (m : Nat) (wv ov : Value) : Prop where
  ok : B.Ok m
  sf : ∃ n : Int, B.sf = [wv, ov, .int .i64 n]
def tkG (most : Int) (n : Nat) (g1 g2 : Ck) : Ck := if 0 < most ∧ most ≤ n then g2 else g1
@[reducible] def tdB (b5 b6 b7 b8 b9 b10 b11 K : Nat) (v : Value) (a : Option Addr) (c n : Nat) (most inner : Int) (r : Bool) (i : Nat) (H : List Ck) : List Ck :=
  .hb b5 26 [.pointer (some ⟨K, 0, none⟩)] :: .hb b6 40 [v] :: .hb b7 22 [.slice a n c] :: .hb b8 3 [.int .i64 most] :: .hb b9 3 [.int .i64 inner] :: .hb b10 4 [.bool r] :: .hb b11 3 [.int .i64 i] :: H
abbrev ToldR (B : Ob) (m : Nat) (wv ov : Value) (g : Ck) (H : List Ck) : Value → List Ck → Prop := fun v' H' => v' = .bool true ∧ ∃ B', B'.k = B.k ∧ Wd B' m wv ov ∧ H' = g :: B'.ck :: H
set_option maxHeartbeats 8000000 in
theorem told_gen {B : Ob} {m : Nat} {wv ov : Value} (hB : Wd B m wv ov) {g0 g1 g2 : Ck} {gm : Nat → Ck} {v : Value} {a : Option Addr} {c : Nat} {es : List KV} {most inner : Int}
    (hT : TvF Tryz.prog w0 true g0 gm g1 g2 v (es.map KV.p)) (hx : RSl w0 H a c es) (hr : ∀ e ∈ es, REe w0 H e) (hz : ∀ e ∈ es, e.k.length ≤ 140737488351232 ∧ e.v.length ≤ 140737488351232) (hm : m + 8 * es.length ≤ 1099511626000) (hm2 : 0 ≤ inner → m + 16 * es.length ≤ 1099511626000)
    (hrec : 0 ≤ inner → ∀ (u : Nat) (B' : Ob) (m' : Nat) (H' : List Ck), Wd B' m' wv ov → B'.k = B.k → m' + 8 * es.length ≤ 1099511626000 → RSl w0 H' a c es → (∀ e ∈ es, REe w0 H' e) →
      FnS Tryz.prog w0 (gm u :: B'.ck :: H') 11 #[.pointer (some ⟨B.k, 0, none⟩), v, .slice a es.length c, .int .i64 (-1), .int .i64 (-1)] (ToldR B' (m' + 2 * es.length) wv ov (gm u) H')) :
    FnS Tryz.prog w0 (g0 :: B.ck :: H) 11 #[.pointer (some ⟨B.k, 0, none⟩), v, .slice a es.length c, .int .i64 most, .int .i64 inner] (ToldR B (m + 2 * es.length + (if 0 ≤ inner then 2 * es.length else 0)) wv ov (tkG most es.length g1 g2) H) := by
  obtain ⟨k, cap, rfl, hk, ht⟩ := hT
  haveI := hk
  refine fns_enterM Tryz.func11 rfl rfl rfl ?_
  refine s_kn (Kn.sl hx.tl.tl) fun l1 => ?_
  simp only [maxLen] at l1
  refine sx ?_
  refine s_box1 rfl rfl fun b5 => ?_
  refine sx ?_
  refine s_box1 rfl rfl fun b6 => ?_
  refine sx ?_
  refine s_box1 rfl rfl fun b7 => ?_
  refine sx ?_
  refine s_box1 rfl rfl fun b8 => ?_
  refine sx ?_
  refine s_box1 rfl rfl fun b9 => ?_
  refine sx ?_
  refine s_alloc fun b10 => ?_
  refine sx ?_
  refine s_alloc fun b11 => ?_
  refine sx ?_
  refine s_rangeF (cap := cap) (ps := [16, 17]) rfl (fun ll D pd K' => ∃ B1 i, B1.k = B.k ∧ Wd B1 (m + 2 * es.length + (if 0 ≤ inner then 2 * es.length else 0)) wv ov ∧ ((pd = none ∧ i = es.length ∧ ¬ (0 < most ∧ most ≤ es.length) ∧ K' = dfk D :: g1 :: tdB b5 b6 b7 b8 b9 b10 b11 B.k (.func (.func k) #[] cap.toArray) a c es.length most inner false i (B1.ck :: H)) ∨ (pd = some .ret ∧ 0 < most ∧ most ≤ es.length ∧ K' = dfk D :: g2 :: tdB b5 b6 b7 b8 b9 b10 b11 B.k (.func (.func k) #[] cap.toArray) a c es.length most inner true i (B1.ck :: H)))) ?_ ?_ ?_
  · intro ll D σ hσ
    refine FnS.ent (H' := [g0, .star (lpk ll σ .ready none :: dfk D :: tdB b5 b6 b7 b8 b9 b10 b11 B.k (.func (.func k) #[] cap.toArray) a c es.length most inner false 0 (B.ck :: H))]) ?_ ?_
    · refine FnS.post (ht ll (fun i Kin => ∃ B1, B1.k = B.k ∧ Wd B1 (m + 2 * i + (if 0 ≤ inner ∧ inner < i then 2 * es.length else 0)) wv ov ∧ ¬ (0 < most ∧ most ≤ i) ∧ Kin = lpk ll σ .ready none :: dfk D :: tdB b5 b6 b7 b8 b9 b10 b11 B.k (.func (.func k) #[] cap.toArray) a c es.length most inner false i (B1.ck :: H))
        (fun Kin => ∃ B1 i, B1.k = B.k ∧ Wd B1 (m + 2 * es.length + (if 0 ≤ inner then 2 * es.length else 0)) wv ov ∧ 0 < most ∧ most ≤ es.length ∧ Kin = lpk ll σ .done (some .ret) :: dfk D :: tdB b5 b6 b7 b8 b9 b10 b11 B.k (.func (.func k) #[] cap.toArray) a c es.length most inner true i (B1.ck :: H)) ?_ _ ⟨B, rfl, ?_, by omega, rfl⟩) ?_
      · rintro i x u Kc T E hxi ⟨B1, hk1, hB1, hmo, rfl⟩ hT hr'
        obtain rfl : T = oKVs x := hT rfl
        obtain ⟨hil0, _⟩ := List.getElem?_eq_some_iff.1 hxi
        have hil : i < es.length := by simpa using hil0
        obtain ⟨e, he⟩ := get_lt es i hil
        have hpe : e.p = x.p := by
          have := get_map (f := KV.p) he
          rw [hxi] at this
          exact (Option.some.inj this).symm
        obtain ⟨hek, hev⟩ : e.k = x.k ∧ e.v = x.v := by simpa [KV.p] using hpe
        have hem := List.mem_of_getElem? he
        obtain ⟨z1, z2⟩ := hz e hem
        rw [hek] at z1
        rw [hev] at z2
        have hxH : RSl w0 (.star H :: gm u :: E) a c es := hx.ent (Ent.open ((Ent.dropL' H)))
        have hreH := (hr e hem).ent (H := .star H :: gm u :: E) (Ent.open (Ent.dropL' H))
        have hk6 := hreH.k
        have hv6 := hreH.v
        have hk5 := hk6
        have hv5 := hv6
        rw [hek] at hk5
        rw [hev] at hv5
        refine YldS.ent (H' := lpk ll σ .ready none :: dfk D :: tdB b5 b6 b7 b8 b9 b10 b11 B.k (.func (.func k) #[] cap.toArray) a c es.length most inner false i (B1.ck :: ob x.ka x.kc x.k :: ob x.va x.vc x.v :: .star H :: gm u :: E)) ?_ ?_
        rotate_left
        · refine Ent.trans st_sw ?_
          refine Ent.trans (st_app (A := lpk ll σ .ready none :: dfk D :: tdB b5 b6 b7 b8 b9 b10 b11 B.k (.func (.func k) #[] cap.toArray) a c es.length most inner false i [B1.ck]) (B := H)) ?_
          refine Ent.trans (H' := .star (oKVs x) :: lpk ll σ .ready none :: dfk D :: tdB b5 b6 b7 b8 b9 b10 b11 B.k (.func (.func k) #[] cap.toArray) a c es.length most inner false i (B1.ck :: .star H :: gm u :: E)) (by exact ent) ?_
          refine Ent.open ?_
          exact ent
        refine yld_of (args := [_, _]) hσ (by exact rm) rfl rfl ?_
        refine sx ?_
        refine s_beg (by exact rm) ?_
        refine sx ?_
        refine s_dr (.one true 0 (.one true 1 (.one true 2 (.one true 3 (.one true 4 (.one true 5 (.one true 6 (.one true 7 (.one true 8 (.one true 9 (.one true 10 (.one true 11 (.one true 12 (.one true 13 (.one true 14 (.one true 15 (.one true 16 (.one true 17 (.one true 18 (.one true 19 (.one true 20 (.one true 21 (.one true 22 (.one true 23 (.one true 24 (.one true 25 .nil)))))))))))))))))))))))))) mixed (by kernel_rfl) ?_
        refine sx ?_
        refine s_gF rfl (by rw [decide_eq_false]; omega) ?_
        refine sx ?_
        refine s_gF rfl (by simp [hek]) ?_
        refine sx ?_
        refine s_cF rfl (by simp [hev]) ?_
        clear hk6 hv6
        refine sx ?_
        refine s_drH (.hb b5 26 [.pointer (some ⟨B.k, 0, none⟩)] :: .hb b7 22 [.slice a es.length c] :: .hb b11 3 [.int .i64 i] :: .star H :: gm u :: E) (.one true 0 (.one true 1 (.one true 2 (.one true 3 (.one true 4 (.one true 5 (.one true 6 (.one true 7 (.one true 8 (.one false 9 .nil)))))))))) mixed (by kernel_rfl) ?_ (he := by exact ent)
        refine sx ?_
        obtain ⟨xi, hxi0⟩ : ∃ q, q = (if 0 ≤ inner ∧ inner < i then 2 * es.length else 0) := ⟨_, rfl⟩
        rw [← hxi0] at hB1
        have hxi1 : xi ≤ 2 * es.length := by rw [hxi0]; split <;> omega
        have hxi2 : 0 ≤ inner ∨ xi = 0 := by rw [hxi0]; split <;> omega
        obtain ⟨okB1, n1, hsf1⟩ := hB1
        refine s_rw (t := 52) (v' := .slice e.ka x.k.length e.kc) rfl (by rw [hek]) ?_
        refine s_rw (t := 46) (v' := .pointer (some ⟨B1.k, 0, none⟩)) rfl (by rw [hk1]; rfl) ?_
        refine s_entL (ob x.ka x.kc x.k :: B1.ck :: (ob x.va x.vc x.v :: lpk ll σ .busy none :: dfk D :: tdB b5 b6 b7 b8 b9 b10 b11 B.k (.func (.func k) #[] cap.toArray) a c es.length most inner false i (.star H :: gm u :: E))) (by exact ent) ?_
        refine s_call rfl (holdB_s okB1 (by omega) (by omega) (by exact rby)) ?_
        rintro _ _ ⟨B2, rfl, k2, sf2, ok2, -, -⟩
        refine ⟨chk_held (by exact ent), ?_⟩
        refine sx ?_
        refine s_drH (.hb b5 26 [.pointer (some ⟨B.k, 0, none⟩)] :: .hb b7 22 [.slice a es.length c] :: .hb b11 3 [.int .i64 i] :: .star H :: gm u :: E) (.one true 0 (.one true 1 (.one true 2 (.one true 3 (.one true 4 (.one true 5 (.one true 6 (.one true 7 (.one true 8 (.one false 9 .nil)))))))))) mixed (by kernel_rfl) ?_ (he := by exact ent)
        refine sx ?_
        refine s_rw (t := 62) (v' := .slice e.va x.v.length e.vc) rfl (by rw [hev]) ?_
        refine s_rw (t := 56) (v' := .pointer (some ⟨B2.k, 0, none⟩)) rfl (by rw [k2, hk1]; rfl) ?_
        refine s_entL (ob x.va x.vc x.v :: B2.ck :: lpk ll σ .busy none :: dfk D :: tdB b5 b6 b7 b8 b9 b10 b11 B.k (.func (.func k) #[] cap.toArray) a c es.length most inner false i (.star H :: gm u :: E)) (by exact ent) ?_
        refine s_call rfl (holdB_s ok2 (by omega) (by omega) (by exact rby)) ?_
        rintro _ _ ⟨B3, rfl, k3, sf3, ok3, -, -⟩
        refine ⟨chk_held (by exact ent), ?_⟩
        refine sx ?_
        have hk3 : B3.k = B.k := by rw [k3, k2, hk1]
        have hsf3 : B3.sf = [wv, ov, .int .i64 n1] := by rw [sf3, sf2, hsf1]
        clear k2 k3 sf2 sf3 ok2 okB1 hsf1
        obtain ⟨K3, sf3, la, lc, ls, wa, wc, ws⟩ := B3
        simp only at hk3 hsf3
        subst hk3
        subst hsf3
        have hKB : ∀ n, (Ob.ck ⟨B.k, [wv, ov, n], la, lc, ls, wa, wc, ws⟩ : Ck) = .star [.hb B.k 34 [.slice la ls.length lc, .slice wa ws.length wc, wv, ov, n], ol 49 la lc ls, ol 9 wa wc ws, fam 5 ls] := fun _ => rfl
        refine s_ent (.hb B.k 34 [.slice la ls.length lc, .slice wa ws.length wc, wv, ov, .int .i64 n1] :: .star [ol 49 la lc ls, ol 9 wa wc ws, fam 5 ls] :: lpk ll σ .busy none :: dfk D :: tdB b5 b6 b7 b8 b9 b10 b11 B.k (.func (.func k) #[] cap.toArray) a c es.length most inner false i (.star H :: gm u :: E)) ?_ ?_
        · rw [hKB]
          refine Ent.open (Ent.head (Ent.star ?_))
          exact Ent.refl
        refine sx ?_
        refine s_drU (.hb b5 26 [.pointer (some ⟨B.k, 0, none⟩)] :: .hb B.k 34 [.slice la ls.length lc, .slice wa ws.length wc, wv, ov, .int .i64 n1] :: []) (.one true 0 (.one true 1 (.one true 2 (.one true 3 (.one true 4 (.one true 5 (.one true 6 (.one true 7 (.one true 8 (.one true 9 (.one true 10 (.one true 11 (.one true 12 (.one true 13 .nil)))))))))))))) (.one false 14 .nil) [14] #[true, true, true, true, true, true, true, true, true, true, true, true, true, true, false] mixed (by kernel_rfl) ?_
        refine sx ?_
        refine s_yH rfl rfl rfl (y_addI rfl rfl) ?_
        generalize IntKind.i64.wrap (n1 + (x.k.length : Int)) = n2
        refine sx ?_
        refine s_yH rfl rfl rfl (y_addI rfl rfl) ?_
        generalize IntKind.i64.wrap (n2 + (x.v.length : Int)) = n3
        refine sx ?_
        refine s_yH rfl rfl rfl (y_addI rfl rfl) ?_
        generalize IntKind.i64.wrap (n3 + 1) = n4
        refine sx ?_
        refine s_bar ?_
        refine sx ?_
        obtain ⟨B4, hB4⟩ : ∃ Q : Ob, Q = ⟨B.k, [wv, ov, .int .i64 n4], la, lc, ls, wa, wc, ws⟩ := ⟨_, rfl⟩
        have hk4 : B4.k = B.k := by rw [hB4]
        have hw4 : Wd B4 (m + 2 * i + xi + 1 + 1) wv ov := by rw [hB4]; exact ⟨⟨ok3.same, ok3.len, ok3.small⟩, n4, rfl⟩
        refine s_ent (B4.ck :: lpk ll σ .busy none :: dfk D :: tdB b5 b6 b7 b8 b9 b10 b11 B.k (.func (.func k) #[] cap.toArray) a c es.length most inner false i (.star H :: gm u :: E)) ?_ ?_
        · rw [hB4, hKB]
          refine Ent.star ?_
          refine Ent.head ?_
          refine Ent.open ?_
          exact Ent.refl
        clear hB4 hKB ok3
        have hmono : ∀ {B5 : Ob} {p q : Nat}, Wd B5 p wv ov → p ≤ q → Wd B5 q wv ov := fun h hpq => ⟨⟨h.ok.same, Nat.le_trans h.ok.len hpq, h.ok.small⟩, h.sf⟩
        refine s_if rfl (fun t1 => ?_) (fun t1 => ?_)
        · have t1 : (i : Int) = inner := t1
          have hin0 : 0 ≤ inner := by omega
          have hxi : xi = 0 := by rw [hxi0, if_neg (by omega)]
          subst hxi
          refine sx ?_
          refine s_rw (t := 81) (v' := .pointer (some ⟨B.k, 0, none⟩)) rfl rfl ?_
          refine s_entL (gm u :: B4.ck :: (lpk ll σ .busy none :: dfk D :: tdB b5 b6 b7 b8 b9 b10 b11 B.k (.func (.func k) #[] cap.toArray) a c es.length most inner false i (.star H :: E))) (by exact ent) ?_
          have hm2 := hm2 hin0
          refine s_call rfl (hrec hin0 u B4 _ _ hw4 hk4 (by omega) ?_ ?_) ?_
          · exact (hx.ent (Ent.open (Ent.dropL' H)) : RSl w0 (.star H :: E) a c es).tl.tl.tl.tl.tl.tl.tl.tl.tl
          · exact fun e he => ((hr e he).ent (H := .star H :: E) (Ent.open (Ent.dropL' H))).tl.tl.tl.tl.tl.tl.tl.tl.tl
          rintro _ _ ⟨rfl, B5, hk5', hw5, rfl⟩
          have hk5q : B5.k = B.k := by rw [hk5', hk4]
          refine ⟨chk_seq, ?_⟩
          refine sx ?_
          refine s_if rfl (fun t2 => ?_) (fun t2 => ?_)
          · have t2 : (i : Int) + 1 = most := t2
            refine sx ?_
            refine s_rndR (by exact rm) ⟨_, .inr ⟨rfl, B5, i + 1, hk5q, hmono hw5 (by rw [if_pos hin0]; omega), by omega, by omega, rfl⟩, rfl⟩ ?_
            refine Ent.trans ?_ (st_app' (A := lpk ll σ .done (some .ret) :: dfk D :: tdB b5 b6 b7 b8 b9 b10 b11 B.k (.func (.func k) #[] cap.toArray) a c es.length most inner true (i + 1) [B5.ck]) (B := H))
            show Ent _ (lpk ll σ .done (some .ret) :: dfk D :: tdB b5 b6 b7 b8 b9 b10 b11 B.k (.func (.func k) #[] cap.toArray) a c es.length most inner true (i + 1) (B5.ck :: .star H :: gm u :: E))
            exact ent
          · have t2 : ¬ (i : Int) + 1 = most := t2
            refine sx ?_
            refine s_rnd (by exact rm) ⟨_, .inl ⟨rfl, B5, hk5q, hmono hw5 (by rw [if_pos ⟨hin0, by omega⟩]; omega), by omega, rfl⟩, rfl⟩ ?_
            refine Ent.trans ?_ (st_app' (A := lpk ll σ .ready none :: dfk D :: tdB b5 b6 b7 b8 b9 b10 b11 B.k (.func (.func k) #[] cap.toArray) a c es.length most inner false (i + 1) [B5.ck]) (B := H))
            show Ent _ (lpk ll σ .ready none :: dfk D :: tdB b5 b6 b7 b8 b9 b10 b11 B.k (.func (.func k) #[] cap.toArray) a c es.length most inner false (i + 1) (B5.ck :: .star H :: gm u :: E))
            exact ent
        · have t1 : ¬ (i : Int) = inner := t1
          refine sx ?_
          refine sx ?_
          refine s_if rfl (fun t2 => ?_) (fun t2 => ?_)
          · have t2 : (i : Int) + 1 = most := t2
            refine sx ?_
            refine s_rndR (by exact rm) ⟨_, .inr ⟨rfl, B4, i + 1, hk4, hmono hw4 (by split <;> omega), by omega, by omega, rfl⟩, rfl⟩ ?_
            refine Ent.trans ?_ (st_app' (A := lpk ll σ .done (some .ret) :: dfk D :: tdB b5 b6 b7 b8 b9 b10 b11 B.k (.func (.func k) #[] cap.toArray) a c es.length most inner true (i + 1) [B4.ck]) (B := H))
            show Ent _ (lpk ll σ .done (some .ret) :: dfk D :: tdB b5 b6 b7 b8 b9 b10 b11 B.k (.func (.func k) #[] cap.toArray) a c es.length most inner true (i + 1) (B4.ck :: .star H :: gm u :: E))
            exact ent
          · have t2 : ¬ (i : Int) + 1 = most := t2
            refine sx ?_
            refine s_rnd (by exact rm) ⟨_, .inl ⟨rfl, B4, hk4, hmono hw4 (by rw [hxi0]; split <;> split <;> omega), by omega, rfl⟩, rfl⟩ ?_
            refine Ent.trans ?_ (st_app' (A := lpk ll σ .ready none :: dfk D :: tdB b5 b6 b7 b8 b9 b10 b11 B.k (.func (.func k) #[] cap.toArray) a c es.length most inner false (i + 1) [B4.ck]) (B := H))
            show Ent _ (lpk ll σ .ready none :: dfk D :: tdB b5 b6 b7 b8 b9 b10 b11 B.k (.func (.func k) #[] cap.toArray) a c es.length most inner false (i + 1) (B4.ck :: .star H :: gm u :: E))
            exact ent
      · rw [if_neg (by omega)]
        exact ⟨⟨hB.ok.same, by have := hB.ok.len; omega, hB.ok.small⟩, hB.sf⟩
      · rintro v' K' ⟨rfl, K2, ⟨⟨B1, hk1, hB1, hmo, rfl⟩, rfl⟩ | ⟨⟨B1, i, hk1, hB1, hm1, hm2, rfl⟩, rfl⟩⟩
        · rw [List.length_map] at hmo hB1
          refine ⟨_, ⟨.ready, none, _, (fun e => by cases e), rfl, B1, es.length, hk1, ⟨⟨hB1.ok.same, Nat.le_trans hB1.ok.len (by split <;> split <;> omega), hB1.ok.small⟩, hB1.sf⟩, .inl ⟨rfl, rfl, hmo, rfl⟩⟩, ?_⟩
          simp only [List.length_map]
          exact st_mid
        · refine ⟨_, ⟨.done, some .ret, _, (fun e => by cases e), rfl, B1, i, hk1, hB1, .inr ⟨rfl, hm1, hm2, rfl⟩⟩, ?_⟩
          exact st_mid
    · refine Ent.cons (by exact rm) ?_
      refine Ent.star ?_
      rw [List.append_nil]
      iterate 9 refine Ent.cons (by exact rm) ?_
      exact Ent.refl
  · rintro ll D K' ⟨B1, i, hk1, hB1, ⟨_, rfl, hmo, rfl⟩ | ⟨hpd, _⟩⟩
    · refine sx ?_
      refine s_mEndD (by exact rm) (resMC (v := .bool true) rfl rfl (by exact at_)) ⟨rfl, B1, hk1, hB1, rfl⟩ ?_ (.inl rfl)
      rw [tkG, if_neg hmo]
      exact ent
    · cases hpd
  · rintro ll D cd K' ⟨B1, i, hk1, hB1, ⟨hpd, _⟩ | ⟨hpd, hm1, hm2, rfl⟩⟩
    · cases hpd
    · obtain rfl := Option.some.inj hpd
      refine sx ?_
      refine s_mEndD (by exact rm) (resMC (v := .bool true) rfl rfl (by exact at_)) ⟨rfl, B1, hk1, hB1, rfl⟩ ?_ (.inl rfl)
      rw [tkG, if_pos ⟨hm1, hm2⟩]
      exact ent
/-- Ranged over, never within itself. -/
theorem told_s {B : Ob} {m : Nat} {wv ov : Value} (hB : Wd B m wv ov) {g0 g1 g2 : Ck} {gm : Nat → Ck} {v : Value} {a : Option Addr} {c : Nat} {es : List KV} {most : Int}
    (hT : TvF Tryz.prog w0 true g0 gm g1 g2 v (es.map KV.p)) (hx : RSl w0 H a c es) (hr : ∀ e ∈ es, REe w0 H e) (hz : ∀ e ∈ es, e.k.length ≤ 140737488351232 ∧ e.v.length ≤ 140737488351232) (hm : m + 8 * es.length ≤ 1099511626000) :
    FnS Tryz.prog w0 (g0 :: B.ck :: H) 11 #[.pointer (some ⟨B.k, 0, none⟩), v, .slice a es.length c, .int .i64 most, .int .i64 (-1)] (ToldR B (m + 2 * es.length) wv ov (tkG most es.length g1 g2) H) := by
  have h := told_gen (most := most) (inner := -1) hB hT hx hr hz hm (fun h => absurd h (by decide)) (fun h => absurd h (by decide))
  exact h
/-- Ranged over, and once more within its loop. -/
theorem toldIn_s {B : Ob} {m : Nat} {wv ov : Value} (hB : Wd B m wv ov) {g0 g1 g2 : Ck} {gm : Nat → Ck} {v : Value} {a : Option Addr} {c : Nat} {es : List KV} {most inner : Int}
    (hT : TvF Tryz.prog w0 true g0 gm g1 g2 v (es.map KV.p)) (hx : RSl w0 H a c es) (hr : ∀ e ∈ es, REe w0 H e) (hz : ∀ e ∈ es, e.k.length ≤ 140737488351232 ∧ e.v.length ≤ 140737488351232) (hm : m + 16 * es.length ≤ 1099511626000)
    (hN : ∀ u, ∃ gn, TvF Tryz.prog w0 true (gm u) gn (gm u) (gm u) v (es.map KV.p)) :
    FnS Tryz.prog w0 (g0 :: B.ck :: H) 11 #[.pointer (some ⟨B.k, 0, none⟩), v, .slice a es.length c, .int .i64 most, .int .i64 inner] (ToldR B (m + 4 * es.length) wv ov (tkG most es.length g1 g2) H) := by
  refine (told_gen (most := most) (inner := inner) hB hT hx hr hz (by omega) (fun _ => hm) ?_).mono ?_
  · intro _ u B' m' H' hw hk hm' hx' hr'
    obtain ⟨gn, hn⟩ := hN u
    have h := told_s (most := -1) hw hn hx' hr' hz hm'
    rw [hk] at h
    refine h.mono ?_
    rintro v' K ⟨h1, B5, h2, h3, h4⟩
    refine ⟨h1, B5, h2, h3, ?_⟩
    rw [h4, tkG]
    split <;> rfl
  · rintro v' K ⟨h1, B', h2, h3, h4⟩
    refine ⟨h1, B', h2, ⟨⟨h3.ok.same, ?_, h3.ok.small⟩, h3.sf⟩, h4⟩
    have := h3.ok.len
    split at this <;> omega
end Go.Sx

