/- Part of a proof: walks through functions of the program, in the words of the calculus of the texts Sx. -/
import Derived.Test.YtbkaabjjmoaijaaCL8
namespace Go.Sx
open Go Go.Proofs
set_option maxRecDepth 10000

/-! ### What Decode computes -/
def parse : Nat → Bs → Bs → Option Ps
  | 0, _, _ => some []
  | n + 1, ah, xs => match rdE ah xs with
    | none => none
    | some (e, rest) => (parse n e.1 rest).map (e :: ·)
def decO (size : Int) (xs : Bs) : Option Ps :=
  if xs.length < 2 then none else match parse (w16 xs) [] (xs.drop 2) with
    | none => none
    | some l => if chkL size l = 0 ∧ encodeL l = xs then some l else none
def decC (size : Int) (xs : Bs) : Int := if sizedL size = true then (if (decO size xs).isSome then 0 else 55) else 1
def decR (size : Int) (xs : Bs) : Ps := if sizedL size = true then (decO size xs).getD [] else []
def lastSB (es : List KV) : SB := match es.getLast? with
  | none => ⟨none, 0, []⟩
  | some e => ⟨e.ka, e.kc, e.k⟩
theorem lastSB_snoc (es : List KV) (e : KV) : lastSB (es ++ [e]) = ⟨e.ka, e.kc, e.k⟩ := by simp [lastSB]
theorem OwE.last {w : World} {B T U : Nat} {a : Option Addr} {c : Nat} {es : List KV} (h : OwE w B T U a c es) : OwB w B U (lastSB es).a (lastSB es).c (lastSB es).xs := by
  unfold lastSB
  cases hl : es.getLast? with
  | none => exact Own.nil ..
  | some e => exact (h.el e (List.mem_of_getLast? hl)).1
theorem rdE_bd {ah xs : Bs} {e : Bs × Bs} {rest : Bs} (h : rdE ah xs = some (e, rest)) : 1 + e.1.length + e.2.length ≤ 262144 := by
  unfold rdE at h
  split at h
  · cases h
  · have h0 := w16_lt xs
    have h1 := w16_lt (xs.drop 2)
    have h2 := w16_lt (xs.drop 4)
    simp only [Option.some.injEq, Prod.mk.injEq] at h
    obtain ⟨⟨rfl⟩, _⟩ := h
    simp only [List.length_append, List.length_take, List.length_drop]
    omega
theorem wt_snoc (ps : Ps) (e : Bs × Bs) : wt (ps ++ [e]) = wt ps + (1 + e.1.length + e.2.length) := by
  induction ps with
  | nil => simp [wt]
  | cons x r ih => simp only [List.cons_append, wt, ih]; omega

/-- What stands behind Decode. -/
def DecPost (w : World) (size : Int) (xs : Bs) (v : Value) (w' : World) : Prop :=
  ∃ a c es, v = .tuple #[.slice a es.length c, .int .i64 (decC size xs)] ∧ Ex w w' ∧ OwE w' w.heap.size 47 5 a c es ∧ es.map KV.p = decR size xs

theorem dec_bad {w w' : World} {size : Int} {xs : Bs} {b4 b5 : Nat} {x y : Value} {l : List (Nat × Value)} (hs : sizedL size = true) (h0 : decO size xs = none) (hE : Ex w w') (h4 : HB w' b4 25 [x]) (h5 : HB w' b5 24 [y]) (hne : b4 ≠ b5)
    (n4 : w.heap.size ≤ b4) (n5 : w.heap.size ≤ b5) (l4 : look l 4 = some (.pointer (some ⟨b4, 0, none⟩))) (l5 : look l 5 = some (.pointer (some ⟨b5, 0, none⟩))) :
    QJ Try.f21.ntmps [{ target := .fn (.func 49) #[.pointer (some ⟨b4, 0, none⟩), .pointer (some ⟨b5, 0, none⟩)], args := #[] }] (bodyPostD Try.prog Try.f21 (RetR (DecPost w size xs))) (.panic badE) l w' := by
  refine q_dpan rfl l4 l5 (catch_bad w' b4 b5 x y h4 h5 hne) ?_
  rintro w2 ⟨h6, h7, hX⟩
  refine ⟨_, _, _, _, h6, h7, none, 0, [], ?_, hE.fresh hX (by intro i hi e; omega), OwE.nil .., ?_⟩
  · simp [decC, hs, h0]
  · simp [decR, hs, h0]
theorem dec_ok {w w' : World} {size : Int} {xs : Bs} {b4 b5 : Nat} {la : Option Addr} {lc : Nat} {es : List KV} {l : List (Nat × Value)} (hs : sizedL size = true) (h0 : decO size xs = some (es.map KV.p)) (hE : Ex w w') (h4 : HB w' b4 25 [.slice la es.length lc]) (h5 : HB w' b5 24 [.int .i64 0])
    (hO : OwE w' w.heap.size 47 5 la lc es) (l4 : look l 4 = some (.pointer (some ⟨b4, 0, none⟩))) (l5 : look l 5 = some (.pointer (some ⟨b5, 0, none⟩))) :
    QJ Try.f21.ntmps [{ target := .fn (.func 49) #[.pointer (some ⟨b4, 0, none⟩), .pointer (some ⟨b5, 0, none⟩)], args := #[] }] (bodyPostD Try.prog Try.f21 (RetR (DecPost w size xs))) .ret l w' := by
  refine q_dret rfl l4 l5 (catch_idle w' b4 b5) ?_
  rintro w2 rfl
  refine ⟨_, _, _, _, h4, h5, la, lc, es, ?_, hE, hO, ?_⟩
  · simp [decC, hs, h0]
  · simp [decR, hs, h0]

set_option maxHeartbeats 4000000 in
theorem decode_go (w : World) (a : Option Addr) (c : Nat) (xs : Bs) (hb : By w a c xs) (size : Int) (hz : -9223372036854775808 ≤ size ∧ size ≤ 9223372036854775807) :
    Fn Try.prog 21 #[.int .i64 size, .slice a xs.length c] w (DecPost w size xs) := by
  have hle := hb.le
  refine fn_enterD Try.func21 rfl rfl rfl ?_
  refine sxo ?_
  refine l_alloc rfl rfl rfl ?_
  intro b4 w1 hN4
  refine ⟨trivial, ?_⟩
  refine l_alloc rfl rfl rfl ?_
  intro b5 w2 hN5
  refine ⟨trivial, ?_⟩
  have hE2 : Ex w w2 := hN4.ex.trans hN5.ex
  have h4 : HB w2 b4 25 [.slice none 0 0] := (HB.ex hN4.hb hN5.ex)
  have h5 : HB w2 b5 24 [.int .i64 0] := hN5.hb
  have a4 := hN4.at_
  have s4 := hN4.sz
  have a5 := hN5.at_
  have s5 := hN5.sz
  refine sxo ?_
  refine l_call rfl rfl rfl rfl (sized_go w2 size) ?_
  rintro _ wq ⟨rfl, hwq⟩
  rw [hwq]
  refine ⟨trivial, ?_⟩
  refine sxo ?_
  refine c_cond rfl (fun t => ?_) (fun t => ?_)
  · have hs : ¬ sizedL size = true := by simpa using t
    refine sxo ?_
    refine l_store (o := 0) rfl rfl rfl rfl h4 Nat.one_pos rfl ?_
    intro w3 h43 hX3 hS3
    refine ⟨trivial, ?_⟩
    refine l_store (o := 0) rfl rfl rfl rfl (h5.ext hX3 (by omega)) Nat.one_pos rfl ?_
    intro w4 h54 hX4 hS4
    refine ⟨trivial, ?_⟩
    refine sxo ?_
    refine q_dret0 rfl rfl rfl (h43.ext hX4 (by omega)) h54 ⟨none, 0, [], ?_, (hE2.fresh hX3 (by intro i hi e; omega)).fresh hX4 (by intro i hi e; omega), OwE.nil .., ?_⟩
    · simp only [decC, if_neg hs]; rfl
    · simp only [decR, if_neg hs]; rfl
  have hs : sizedL size = true := by simpa using t
  refine sxo ?_
  refine l_y rfl rfl (y_mkf rfl) ?_
  refine l_defer rfl rfl rfl trivial ?_
  refine sxo ?_
  refine l_y rfl rfl (y_build (cs := [.slice a xs.length c]) rfl (fun _ => by kernel_rfl)) ?_
  refine l_box rfl rfl rfl rfl ?_
  intro rb w3 hN3
  refine ⟨trivial, ?_⟩
  have hE3 := hE2.trans hN3.ex
  have a3 := hN3.at_
  have s3 := hN3.sz
  refine sxo ?_
  have hR3 : Rd w3 rb a c xs := ⟨hN3.hb, hb.ex hE3, by
    intro hx ad e
    subst e
    have h0 : 0 < xs.length := by cases xs with | nil => exact absurd rfl hx | cons _ _ => exact Nat.succ_pos _
    have := World.block_lt_of_cell? w _ (hb.cell (i := 0) h0)
    have h1 : (ad.add (0 * 1)).block = ad.block := by unfold Addr.add; split <;> rfl
    omega⟩
  have h43 := h4.ex hN3.ex
  have h53 := h5.ex hN3.ex
  refine l_callP rfl rfl rfl rfl (rtwo_go w3 rb a c xs hR3) ?_ ?_
  · rintro _ wq ⟨g1, rfl, hwq⟩
    rw [hwq]
    repeat (first | with_reducible apply q_then_panic | with_reducible apply q_blk_panic)
    exact dec_bad hs (by rw [decO, if_pos g1]) hE3 h43 h53 (by omega) (by omega) (by omega) rfl rfl
  rintro _ w6 ⟨h26, rfl, hR6, hX36⟩
  refine ⟨trivial, ?_⟩
  have hmany := w16_lt xs
  have hE6 : Ex w w6 := hE3.fresh hX36 (by intro i hi e; omega)
  have h46 := h43.ext hX36 (by omega)
  have h56 := h53.ext hX36 (by omega)
  have s6 := hX36.size
  refine sxo ?_
  refine c_loop (ι := Nat × Option Addr × Nat × List KV × Option Addr × Nat × Bs) (fun x => [(0, .int .i64 size), (1, .slice a xs.length c), (4, .pointer (some ⟨b4, 0, none⟩)), (5, .pointer (some ⟨b5, 0, none⟩)), (6, .pointer (some ⟨rb, 0, none⟩)), (7, .slice (lastSB x.2.2.2.1).a (lastSB x.2.2.2.1).xs.length (lastSB x.2.2.2.1).c), (17, .int .i64 (w16 xs)), (18, .int .i64 x.1)])
    (fun x w' => Ex w w' ∧ w6.heap.size ≤ w'.heap.size ∧ HB w' b4 25 [.slice x.2.1 x.2.2.2.1.length x.2.2.1] ∧ HB w' b5 24 [.int .i64 0] ∧ Rd w' rb x.2.2.2.2.1 x.2.2.2.2.2.1 x.2.2.2.2.2.2 ∧ OwE w' w3.heap.size 47 5 x.2.1 x.2.2.1 x.2.2.2.1 ∧
      x.2.2.2.1.length = x.1 ∧ x.1 ≤ w16 xs ∧ parse (w16 xs) [] (xs.drop 2) = (parse (w16 xs - x.1) (lastSB x.2.2.2.1).xs x.2.2.2.2.2.2).map (x.2.2.2.1.map KV.p ++ ·) ∧ wt (x.2.2.2.1.map KV.p) ≤ x.1 * 262144 ∧ By w x.2.2.2.2.1 x.2.2.2.2.2.1 x.2.2.2.2.2.2)
    (fun x => w16 xs - x.1) (0, none, 0, [], _, _, xs.drop 2) (by exact ⟨rfl, rfl, rfl, rfl, rfl, rfl, rfl, rfl, trivial⟩)
    ⟨hE6, Nat.le_refl _, h46, h56, hR6, OwE.nil .., rfl, Nat.zero_le _, by simp [lastSB], Nat.zero_le _, hb.drop h26⟩ ?_
  rintro ⟨k, la, lc, es, ra, rc, rest⟩ w8 ⟨hE8, hS8, h48, h58, hR8, hO8, hlen, hk, hpar, hwt, hbw⟩
  simp only at h48 h58 hR8 hO8 hlen hk hpar hwt hbw ⊢
  subst hlen
  refine sxo ?_
  refine c_if rfl (fun hlt => ?_) (fun hge => ?_)
  · have hlt' : es.length < w16 xs := by omega
    have hL8 := OwE.last hO8
    have hAne : ∀ ad, (lastSB es).a = some ad → ad.block ≠ rb := by
      intro ad e h'
      have := OwB.bl (i := ad.block) hL8 (by rw [e]; rfl)
      omega
    have hstep : w16 xs - es.length = (w16 xs - es.length - 1) + 1 := by omega
    rw [hstep, parse] at hpar
    have hnone : rdE (lastSB es).xs rest = none → decO size xs = none := by
      intro g
      rw [g] at hpar
      rw [decO, if_neg (by omega), hpar]
      rfl
    refine sxo ?_
    refine c_cut (ι := Option Addr × Nat × KV × Option Addr × Nat × Bs) (fun x => [(0, .int .i64 size), (1, .slice a xs.length c), (4, .pointer (some ⟨b4, 0, none⟩)), (5, .pointer (some ⟨b5, 0, none⟩)), (6, .pointer (some ⟨rb, 0, none⟩)), (17, .int .i64 (w16 xs)), (18, .int .i64 es.length)])
      (fun x w' => Ex w w' ∧ w8.heap.size ≤ w'.heap.size ∧ HB w' b4 25 [.slice x.1 (es.length + 1) x.2.1] ∧ HB w' b5 24 [.int .i64 0] ∧ Rd w' rb x.2.2.2.1 x.2.2.2.2.1 x.2.2.2.2.2 ∧ OwE w' w3.heap.size 47 5 x.1 x.2.1 (es ++ [x.2.2.1]) ∧
        rdE (lastSB es).xs rest = some (x.2.2.1.p, x.2.2.2.2.2) ∧ By w x.2.2.2.1 x.2.2.2.2.1 x.2.2.2.2.2) ?_ ?_
    · refine c_drP (fun i => i = rb ∨ blk la = some i ∨ i = b4) (.one true 1 (.one true 2 (.alt (.one false 0 (.one false 3 (.one false 4 (.one false 5 (.one false 6 .nil))))) (.one false 3 (.alt (.one false 0 (.one false 4 (.one false 5 (.one false 6 .nil)))) (.one false 4 (.one false 0 (.one false 5 (.one false 6 .nil))))))))) mixed
        [(4, .pointer (some ⟨b4, 0, none⟩)), (5, .pointer (some ⟨b5, 0, none⟩))] (fun ch w' => ch = badE ∧ Ex w w' ∧ (∃ x, HB w' b4 25 [x]) ∧ (∃ x, HB w' b5 24 [x]) ∧ decO size xs = none) rfl (by kernel_rfl) ?_ ?_
      · rintro _ w' ⟨rfl, g1, ⟨x, g2⟩, ⟨y, g3⟩, g4⟩
        repeat (first | with_reducible apply q_then_panic | with_reducible apply q_blk_panic)
        exact dec_bad hs g4 g1 g2 g3 (by omega) (by omega) (by omega) rfl rfl
      intro w9 hE89 hh9
      have hE9 := hE8.trans hE89
      have h49 := h48.ex hE89
      have h59 := h58.ex hE89
      have hR9 := hR8.ex hE89
      have hA9 := OwB.by (hL8.ex hE89)
      have hO9 := hO8.ex hE89
      have s9 := hE89.size
      refine sxo ?_
      refine l_alt ?_ ?_
      · refine l_act rfl rfl rfl (y_load rfl (by rintro _ rfl; exact HB.cell0 (h49) rfl)) (Ex.ext hE89) ?_
        (refine sxo ?_); refine l_callP rfl rfl rfl rfl (entryR_go w9 rb _ _ _ hR9 _ _ _ hA9 hAne (by omega)) (by { rintro _ wq ⟨g1, rfl, g3⟩; exact q_panto_panic ⟨rfl, rfl, trivial⟩ ⟨rfl, hE9.fresh g3 (by intro i hi e; omega), ⟨_, h49.ext g3 (by omega)⟩, ⟨_, h59.ext g3 (by omega)⟩, hnone g1⟩ }) ?_; rintro _ w10 ⟨e, rest', ra', rc', hrd, rfl, hR10, hX10, hK10, hBy10⟩; have hC10 : Ext (fun i => i = rb ∨ blk la = some i ∨ i = b4) w8 w10 := (Ex.ext hE89).trans (hX10.mono (fun _ _ h => .inl h)); refine ⟨hC10, ?_⟩; have h410 := h49.ext hX10 (by omega); have h510 := h59.ext hX10 (by omega)
        refine l_bsl rfl rfl rfl rfl (by rfl) (by rfl) (by rfl) ?_; intro bB w11 hN11; have hC11 := hC10.trans (Ex.ext hN11.ex); refine ⟨hC11, ?_⟩; have hb11 : HB w11 bB 47 e.cells := hN11.hb
        have hK11 : KO w11 w9.heap.size e := ⟨hK10.k.ex hN11.ex, hK10.v.ex hN11.ex, hK10.dj⟩; have hO11 := (hO9.ext hX10 (fun i g1 _ (g2 : i = rb) => by omega)).ex hN11.ex; have hlab : ¬ blk la = some b4 := (fun g => by { have := hO9.bla g; omega }); refine l_app (by decide : 0 < 2) rfl rfl rfl rfl rfl hO11.sl hb11.src (by rintro ⟨⟩) rfl (by { intro v hv; simp only [KV.cells, List.mem_cons, List.not_mem_nil, or_false] at hv; rcases hv with rfl | rfl; rfl; rfl }) (by omega) (by simp only [maxLen]; omega) (by have := hC11.size; omega) ?_; intro la' lc' w12 hs12 hX12 hf12; have hC12 := hC11.trans (hX12.mono (fun _ _ h => .inr (.inl h))); refine ⟨hC12, ?_⟩; have h412 := (h410.ex hN11.ex).ext hX12 hlab; (refine sxo ?_); refine l_store (o := 0) rfl rfl rfl rfl h412 Nat.one_pos rfl ?_; intro w13 h413 hX13 hS13; have hC13 := hC12.trans (hX13.mono (fun _ _ h => .inr (.inr h))); refine ⟨hC13, ?_⟩; have hE13 : Ex w w13 := hE8.fresh hC13 (by { rintro i hi (g | g | g); omega; (have := hO8.bla g); omega; omega }); have s11 := hN11.sz; have s10 := hX10.size; have s12 := hX12.size; have hO12 : OwE w12 w3.heap.size 47 5 la' lc' (es ++ [e]) := hO11.push hK11.k hK11.v hK11.dj (by omega) (by { intro i g; rcases g with g | g; (have := hO9.bla g); omega; (have := hO9.bl g); omega }) hs12 ⟨hX12, hf12⟩; (refine sxo ?_); refine q_mid (la', lc', e, ra', rc', rest') ⟨rfl, rfl, rfl, rfl, rfl, rfl, rfl, trivial⟩ ⟨hE13, hC13.size, h413, ((h510.ex hN11.ex).ext hX12 (fun g => by { have := hO9.bla g; omega })).ext hX13 (by omega), ⟨((hR10.hb.ex hN11.ex).ext hX12 (fun g => by { have := hO9.bla g; omega })).ext hX13 (by omega), (hBy10 w hbw).ex hE13, hR10.ne⟩, hO12.ext hX13 (fun i g1 _ (g2 : i = b4) => by omega), hrd, hBy10 w hbw⟩
      · (refine sxo ?_); refine l_callP rfl rfl rfl rfl (entryR_go w9 rb _ _ _ hR9 _ _ _ hA9 hAne (by omega)) (by { rintro _ wq ⟨g1, rfl, g3⟩; exact q_panto_panic ⟨rfl, rfl, trivial⟩ ⟨rfl, hE9.fresh g3 (by intro i hi e; omega), ⟨_, h49.ext g3 (by omega)⟩, ⟨_, h59.ext g3 (by omega)⟩, hnone g1⟩ }) ?_; rintro _ w10 ⟨e, rest', ra', rc', hrd, rfl, hR10, hX10, hK10, hBy10⟩; have hC10 : Ext (fun i => i = rb ∨ blk la = some i ∨ i = b4) w8 w10 := (Ex.ext hE89).trans (hX10.mono (fun _ _ h => .inl h)); refine ⟨hC10, ?_⟩; have h410 := h49.ext hX10 (by omega); have h510 := h59.ext hX10 (by omega)
        refine l_alt ?_ ?_
        · refine l_act rfl rfl rfl (y_load rfl (by rintro _ rfl; exact HB.cell0 (h410) rfl)) (hC10) ?_
          refine l_bsl rfl rfl rfl rfl (by rfl) (by rfl) (by rfl) ?_; intro bB w11 hN11; have hC11 := hC10.trans (Ex.ext hN11.ex); refine ⟨hC11, ?_⟩; have hb11 : HB w11 bB 47 e.cells := hN11.hb
          have hK11 : KO w11 w9.heap.size e := ⟨hK10.k.ex hN11.ex, hK10.v.ex hN11.ex, hK10.dj⟩; have hO11 := (hO9.ext hX10 (fun i g1 _ (g2 : i = rb) => by omega)).ex hN11.ex; have hlab : ¬ blk la = some b4 := (fun g => by { have := hO9.bla g; omega }); refine l_app (by decide : 0 < 2) rfl rfl rfl rfl rfl hO11.sl hb11.src (by rintro ⟨⟩) rfl (by { intro v hv; simp only [KV.cells, List.mem_cons, List.not_mem_nil, or_false] at hv; rcases hv with rfl | rfl; rfl; rfl }) (by omega) (by simp only [maxLen]; omega) (by have := hC11.size; omega) ?_; intro la' lc' w12 hs12 hX12 hf12; have hC12 := hC11.trans (hX12.mono (fun _ _ h => .inr (.inl h))); refine ⟨hC12, ?_⟩; have h412 := (h410.ex hN11.ex).ext hX12 hlab; (refine sxo ?_); refine l_store (o := 0) rfl rfl rfl rfl h412 Nat.one_pos rfl ?_; intro w13 h413 hX13 hS13; have hC13 := hC12.trans (hX13.mono (fun _ _ h => .inr (.inr h))); refine ⟨hC13, ?_⟩; have hE13 : Ex w w13 := hE8.fresh hC13 (by { rintro i hi (g | g | g); omega; (have := hO8.bla g); omega; omega }); have s11 := hN11.sz; have s10 := hX10.size; have s12 := hX12.size; have hO12 : OwE w12 w3.heap.size 47 5 la' lc' (es ++ [e]) := hO11.push hK11.k hK11.v hK11.dj (by omega) (by { intro i g; rcases g with g | g; (have := hO9.bla g); omega; (have := hO9.bl g); omega }) hs12 ⟨hX12, hf12⟩; (refine sxo ?_); refine q_mid (la', lc', e, ra', rc', rest') ⟨rfl, rfl, rfl, rfl, rfl, rfl, rfl, trivial⟩ ⟨hE13, hC13.size, h413, ((h510.ex hN11.ex).ext hX12 (fun g => by { have := hO9.bla g; omega })).ext hX13 (by omega), ⟨((hR10.hb.ex hN11.ex).ext hX12 (fun g => by { have := hO9.bla g; omega })).ext hX13 (by omega), (hBy10 w hbw).ex hE13, hR10.ne⟩, hO12.ext hX13 (fun i g1 _ (g2 : i = b4) => by omega), hrd, hBy10 w hbw⟩
        · refine l_bsl rfl rfl rfl rfl (by rfl) (by rfl) (by rfl) ?_; intro bB w11 hN11; have hC11 := hC10.trans (Ex.ext hN11.ex); refine ⟨hC11, ?_⟩; have hb11 : HB w11 bB 47 e.cells := hN11.hb
          refine l_act rfl rfl rfl (y_load rfl (by rintro _ rfl; exact HB.cell0 (h410.ex hN11.ex) rfl)) (hC11) ?_
          have hK11 : KO w11 w9.heap.size e := ⟨hK10.k.ex hN11.ex, hK10.v.ex hN11.ex, hK10.dj⟩; have hO11 := (hO9.ext hX10 (fun i g1 _ (g2 : i = rb) => by omega)).ex hN11.ex; have hlab : ¬ blk la = some b4 := (fun g => by { have := hO9.bla g; omega }); refine l_app (by decide : 0 < 2) rfl rfl rfl rfl rfl hO11.sl hb11.src (by rintro ⟨⟩) rfl (by { intro v hv; simp only [KV.cells, List.mem_cons, List.not_mem_nil, or_false] at hv; rcases hv with rfl | rfl; rfl; rfl }) (by omega) (by simp only [maxLen]; omega) (by have := hC11.size; omega) ?_; intro la' lc' w12 hs12 hX12 hf12; have hC12 := hC11.trans (hX12.mono (fun _ _ h => .inr (.inl h))); refine ⟨hC12, ?_⟩; have h412 := (h410.ex hN11.ex).ext hX12 hlab; (refine sxo ?_); refine l_store (o := 0) rfl rfl rfl rfl h412 Nat.one_pos rfl ?_; intro w13 h413 hX13 hS13; have hC13 := hC12.trans (hX13.mono (fun _ _ h => .inr (.inr h))); refine ⟨hC13, ?_⟩; have hE13 : Ex w w13 := hE8.fresh hC13 (by { rintro i hi (g | g | g); omega; (have := hO8.bla g); omega; omega }); have s11 := hN11.sz; have s10 := hX10.size; have s12 := hX12.size; have hO12 : OwE w12 w3.heap.size 47 5 la' lc' (es ++ [e]) := hO11.push hK11.k hK11.v hK11.dj (by omega) (by { intro i g; rcases g with g | g; (have := hO9.bla g); omega; (have := hO9.bl g); omega }) hs12 ⟨hX12, hf12⟩; (refine sxo ?_); refine q_mid (la', lc', e, ra', rc', rest') ⟨rfl, rfl, rfl, rfl, rfl, rfl, rfl, trivial⟩ ⟨hE13, hC13.size, h413, ((h510.ex hN11.ex).ext hX12 (fun g => by { have := hO9.bla g; omega })).ext hX13 (by omega), ⟨((hR10.hb.ex hN11.ex).ext hX12 (fun g => by { have := hO9.bla g; omega })).ext hX13 (by omega), (hBy10 w hbw).ex hE13, hR10.ne⟩, hO12.ext hX13 (fun i g1 _ (g2 : i = b4) => by omega), hrd, hBy10 w hbw⟩
    · rintro ⟨la', lc', e, ra', rc', rest'⟩ w13 ⟨hE13, hS13, h413, h513, hR13, hO13, hrd, hbw'⟩
      simp only at h413 h513 hR13 hO13 hrd hbw' ⊢
      refine CJ.out ?_
      have hEn := hO13.en
      have hget : (es ++ [e])[es.length]? = some e := by simp
      obtain ⟨ad, rfl⟩ := hEn.some (by simp)
      have hwl : es.length + 1 = (es ++ [e]).length := by simp
      refine sxo ?_
      refine l_rw (t := 29) rfl (ci (by omega : _ = ((es.length : Nat) : Int))) ?_
      refine sxo ?_
      rw [hrd] at hpar
      have hbd := rdE_bd hrd
      refine q_again (es.length + 1, some ad, lc', es ++ [e], ra', rc', rest') ⟨rfl, rfl, rfl, rfl, rfl, ?_, rfl, rfl, trivial⟩ ⟨hE13, by omega, ?_, h513, hR13, hO13, by simp, by omega, ?_, ?_, hbw'⟩ (by simp only; omega)
      · simp only [lastSB_snoc]; rfl
      · simp only [List.length_append]; exact h413
      · simp only [lastSB_snoc]
        rw [hpar]
        simp only [Option.map_map, KV.p]
        have e1 : w16 xs - es.length - 1 = w16 xs - (es.length + 1) := by omega
        rw [e1]
        congr 1
        funext z
        simp [KV.p]
      · simp only [List.map_append, List.map_cons, List.map_nil, wt_snoc]
        have : 1 + (KV.p e).1.length + (KV.p e).2.length ≤ 262144 := hbd
        omega
  · have hlen' : es.length = w16 xs := by omega
    have h0 : w16 xs - es.length = 0 := by omega
    rw [h0, parse] at hpar
    simp only [Option.map_some, List.append_nil] at hpar
    have hS : Small (es.map KV.p) := by simp only [Small]; omega
    have hdec : decO size xs = if chkL size (es.map KV.p) = 0 ∧ encodeL (es.map KV.p) = xs then some (es.map KV.p) else none := by
      rw [decO, if_neg (by omega), hpar]
    refine sxo ?_
    refine l_call rfl rfl rfl rfl (encode_go w8 la lc es hO8.en hS size hz) ?_
    rintro _ w9 ⟨a9, c9, bs, rfl, hE9, hO9, hbs⟩
    refine ⟨trivial, ?_⟩
    have h49 := h48.ex hE9
    have h59 := h58.ex hE9
    have hO89 := hO8.ex hE9
    have hle9 := (OwB.by hO9).len
    refine sxo ?_
    refine l_store (o := 0) rfl rfl rfl rfl h59 Nat.one_pos rfl ?_
    intro w10 h510 hX10 hS10
    refine ⟨trivial, ?_⟩
    have hE10 : Ex w w10 := (hE8.trans hE9).fresh hX10 (by intro i hi e; omega)
    have h410 := h49.ext hX10 (by omega)
    have h510 : HB w10 b5 24 [.int .i64 (chkL size (es.map KV.p))] := h510
    have hO10 := hO89.ext hX10 (fun i g1 _ (g2 : i = b5) => by omega)
    have hb10 := hb.ex hE10
    have hB10 : By w10 a9 c9 bs := (OwB.by hO9).ext hX10 (fun ad e _ h' => by subst e; have := hO9.ge; have h' : ad.block = b5 := h'; have := hE9.size; omega)
    refine sxo ?_
    refine l_ifn rfl (fun g => ?_) (fun g => ?_)
    · refine sxo ?_
      refine l_y rfl rfl (y_build (ps := []) (vals := []) (cs := []) rfl (fun _ => by kernel_rfl)) ?_; refine l_y rfl rfl (y_mki rfl (fun _ => by kernel_rfl)) ?_; refine l_panic rfl rfl rfl ?_; repeat (first | with_reducible apply q_then_panic | with_reducible apply q_blk_panic)
      exact dec_bad hs (by rw [hdec, if_neg (fun g' => g g'.1)]) hE10 h410 h510 (by omega) (by omega) (by omega) rfl rfl
    · refine sxo ?_
      refine l_call rfl rfl rfl rfl (equal_go w10 _ _ _ _ _ _ hB10 hb10) ?_
      rintro _ wz ⟨rfl, hwz⟩
      rw [hwz]
      refine ⟨trivial, ?_⟩
      rw [if_pos g] at hbs
      subst hbs
      refine sxo ?_
      refine c_ifn (p := encodeL (es.map KV.p) = xs) rfl (fun hne => ?_) (fun heq => ?_)
      · refine sxo ?_
        refine l_y rfl rfl (y_build (ps := []) (vals := []) (cs := []) rfl (fun _ => by kernel_rfl)) ?_; refine l_y rfl rfl (y_mki rfl (fun _ => by kernel_rfl)) ?_; refine l_panic rfl rfl rfl ?_; repeat (first | with_reducible apply q_then_panic | with_reducible apply q_blk_panic)
        exact dec_bad hs (by rw [hdec, if_neg (fun g' => hne g'.2)]) hE10 h410 h510 (by omega) (by omega) (by omega) rfl rfl
      · refine sxo ?_
        refine l_store (o := 0) rfl rfl rfl rfl h410 Nat.one_pos rfl ?_
        intro w11 h411 hX11 hS11
        refine ⟨trivial, ?_⟩
        have h511 := h510.ext hX11 (by omega)
        refine l_store (o := 0) rfl rfl rfl rfl h511 Nat.one_pos rfl ?_
        intro w12 h512 hX12 hS12
        refine ⟨trivial, ?_⟩
        have hO12 := (hO10.ext hX11 (fun i g1 _ (g2 : i = b4) => by omega)).ext hX12 (fun i g1 _ (g2 : i = b5) => by omega)
        have hE12 : Ex w w12 := (hE10.fresh hX11 (by intro i hi e; omega)).fresh hX12 (by intro i hi e; omega)
        refine sxo ?_
        exact dec_ok hs (by rw [hdec, if_pos ⟨g, heq⟩]) hE12 (h411.ext hX12 (by omega)) h512 (hO12.mono (by omega)) rfl rfl
end Go.Sx
