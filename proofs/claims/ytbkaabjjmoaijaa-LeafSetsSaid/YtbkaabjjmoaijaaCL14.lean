/- Part of a proof: walks through functions of the program, in the words of the calculus of the texts Sx. -/
import Derived.Test.YtbkaabjjmoaijaaCL13
namespace Go.Sx
open Go Go.Proofs
set_option maxRecDepth 10000

theorem rdE_at (ah xs : Bs) (p : Nat) : rdE ah (xs.drop p) =
    if xs.length - p < 6 ∨ ah.length < w16 (xs.drop p) ∨ xs.length - (p + 6) < w16 (xs.drop (p + 2)) + w16 (xs.drop (p + 4)) then none
    else some ((ah.take (w16 (xs.drop p)) ++ (xs.take (p + 6 + w16 (xs.drop (p + 2)))).drop (p + 6), (xs.take (p + 6 + w16 (xs.drop (p + 2)) + w16 (xs.drop (p + 4)))).drop (p + 6 + w16 (xs.drop (p + 2)))), xs.drop (p + 6 + w16 (xs.drop (p + 2)) + w16 (xs.drop (p + 4)))) := by
  have h1 : xs.length - p - 6 = xs.length - (p + 6) := by omega
  simp only [rdE, List.drop_drop, List.length_drop, h1]
  split
  · rfl
  · simp only [List.take_drop]
    simp only [Nat.add_assoc]

theorem toldw_go (w : World) (a : Option Addr) (c n : Nat) (ys : Bs) (ha : By w a c ys) (hn : n = ys.length) (h2 : 2 ≤ n) : Fn Try.prog 54 #[.slice a n c] w (fun v w' => v = .int .i64 (w16 ys) ∧ Ex w w') := by
  subst hn
  exact told_go w a c ys ha h2
theorem dec_none {w w' : World} {size : Int} {xs : Bs} (hs : sizedL size = true) (h0 : decO size xs = none) (hE : Ex w w') : DecPost w size xs (.tuple #[.slice none 0 0, .int .i64 55]) w' :=
  ⟨none, 0, [], by simp [decC, hs, h0], hE, OwE.nil .., by simp [decR, hs, h0]⟩

set_option maxHeartbeats 4000000 in
theorem rdecode_go (w : World) (a : Option Addr) (c : Nat) (xs : Bs) (hb : By w a c xs) (size : Int) (hz : -9223372036854775808 ≤ size ∧ size ≤ 9223372036854775807) :
    Fn Try.prog 22 #[.int .i64 size, .slice a xs.length c] w (DecPost w size xs) := by
  have hle := hb.le
  have hbl := hb.len
  refine fn_enter Try.func22 rfl rfl rfl ?_
  refine sxo ?_
  refine l_call rfl rfl rfl rfl (rsized_go w size) ?_
  rintro _ wq ⟨rfl, hwq⟩
  rw [hwq]
  refine ⟨trivial, ?_⟩
  refine sxo ?_
  refine c_cond rfl (fun t => ?_) (fun t => ?_)
  · have hs : ¬ sizedL size = true := by simpa using t
    refine sxo ?_
    refine q_ret2 rfl rfl rfl ⟨none, 0, [], ?_, Ext.refl w, OwE.nil .., ?_⟩
    · simp only [decC, if_neg hs]; rfl
    · simp only [decR, if_neg hs]; rfl
  have hs : sizedL size = true := by simpa using t
  refine sxo ?_
  refine c_if rfl (fun h2 => ?_) (fun h2 => ?_)
  · refine sxo ?_
    exact q_ret2 rfl rfl rfl (dec_none hs (by rw [decO, if_pos (by omega)]) (Ext.refl w))
  have h2 : 2 ≤ xs.length := by omega
  refine sxo ?_
  refine l_call rfl rfl rfl rfl (toldw_go w a c _ xs hb rfl h2) ?_
  rintro _ w1 ⟨rfl, hE1⟩
  refine ⟨trivial, ?_⟩
  have hmany := w16_lt xs
  refine sxo ?_
  refine c_loop (ι := Nat × Option Addr × Nat × List KV × Nat) (fun x => [(0, .int .i64 size), (1, .slice a xs.length c), (7, .slice x.2.1 x.2.2.2.1.length x.2.2.1), (8, .slice (lastSB x.2.2.2.1).a (lastSB x.2.2.2.1).xs.length (lastSB x.2.2.2.1).c), (9, .int .i64 (w16 xs)), (10, .int .i64 x.2.2.2.2), (11, .int .i64 x.1)])
    (fun x w' => Ex w w' ∧ OwE w' w.heap.size 47 5 x.2.1 x.2.2.1 x.2.2.2.1 ∧ x.2.2.2.1.length = x.1 ∧ x.1 ≤ w16 xs ∧ x.2.2.2.2 ≤ xs.length ∧
      parse (w16 xs) [] (xs.drop 2) = (parse (w16 xs - x.1) (lastSB x.2.2.2.1).xs (xs.drop x.2.2.2.2)).map (x.2.2.2.1.map KV.p ++ ·) ∧ wt (x.2.2.2.1.map KV.p) ≤ x.1 * 262144)
    (fun x => w16 xs - x.1) (0, none, 0, [], 2) (by exact ⟨rfl, rfl, rfl, rfl, rfl, rfl, rfl, trivial⟩)
    ⟨hE1, OwE.nil .., rfl, Nat.zero_le _, h2, by simp [lastSB], Nat.zero_le _⟩ ?_
  rintro ⟨k, la, lc, es, p⟩ w8 ⟨hE8, hO8, hlen, hk, hp, hpar, hwt⟩
  simp only at hO8 hlen hk hp hpar hwt ⊢
  subst hlen
  have hS8 := hE8.size
  have hb8 := hb.ex hE8
  refine sxo ?_
  refine c_if rfl (fun hlt => ?_) (fun hge => ?_)
  · have hL8 := OwE.last hO8
    have hLl := (OwB.by hL8).len
    have hLe := (OwB.by hL8).le
    have hstep : w16 xs - es.length = (w16 xs - es.length - 1) + 1 := by omega
    rw [hstep, parse, rdE_at] at hpar
    have hnone : (xs.length - p < 6 ∨ (lastSB es).xs.length < w16 (xs.drop p) ∨ xs.length - (p + 6) < w16 (xs.drop (p + 2)) + w16 (xs.drop (p + 4))) → decO size xs = none := by
      intro g
      rw [if_pos g] at hpar
      rw [decO, if_neg (by omega), hpar]
      rfl
    have hw0 := w16_lt (xs.drop p)
    have hw2 := w16_lt (xs.drop (p + 2))
    have hw4 := w16_lt (xs.drop (p + 4))
    refine sxo ?_
    refine c_if rfl (fun h6 => ?_) (fun h6 => ?_)
    · refine sxo ?_
      exact q_ret2 rfl rfl rfl (dec_none hs (hnone (.inl (by omega))) hE8)
    have h6 : p + 6 ≤ xs.length := by omega
    refine sxo ?_
    refine l_call rfl rfl rfl rfl (toldw_go w8 _ _ (xs.length - (p)) (xs.drop (p)) (hb8.drop (by omega)) (by simp) (by omega)) ?_
    rintro _ w9 ⟨rfl, hE9⟩
    refine ⟨trivial, ?_⟩
    have hb9 := hb8.ex hE9
    refine sxo ?_
    refine l_rw (t := 43) rfl (ci (by omega : _ = ((p + 2 : Nat) : Int))) ?_
    refine sxo ?_
    refine l_call rfl rfl rfl rfl (toldw_go w9 _ _ (xs.length - (p + 2)) (xs.drop (p + 2)) (hb9.drop (by omega)) (by simp) (by omega)) ?_
    rintro _ w10 ⟨rfl, hE10⟩
    refine ⟨trivial, ?_⟩
    have hb10 := hb9.ex hE10
    refine sxo ?_
    refine l_rw (t := 48) rfl (ci (by omega : _ = ((p + 4 : Nat) : Int))) ?_
    refine sxo ?_
    refine l_call rfl rfl rfl rfl (toldw_go w10 _ _ (xs.length - (p + 4)) (xs.drop (p + 4)) (hb10.drop (by omega)) (by simp) (by omega)) ?_
    rintro _ w11 ⟨rfl, hE11⟩
    refine ⟨trivial, ?_⟩
    refine sxo ?_
    have hE011 : Ex w w11 := ((hE8.trans hE9).trans hE10).trans hE11
    refine l_rw (t := 10) rfl (ci (by omega : _ = ((p + 6 : Nat) : Int))) ?_
    refine sxo ?_
    refine l_if rfl (fun g => ?_) (fun g => ?_)
    · refine sxo ?_
      exact q_ret2 rfl rfl rfl (dec_none hs (hnone (.inr (.inl (by omega)))) hE011)
    · refine sxo ?_
      refine c_if rfl (fun g3 => ?_) (fun g3 => ?_)
      · refine sxo ?_
        exact q_ret2 rfl rfl rfl (dec_none hs (hnone (.inr (.inr (by omega)))) hE011)
      refine sxo ?_
      have hm6 : p + 6 + w16 (xs.drop (p + 2)) + w16 (xs.drop (p + 4)) ≤ xs.length := by omega
      have hO11 := ((hO8.ex hE9).ex hE10).ex hE11
      have hL11 := OwE.last hO11
      have hb11 := hb10.ex hE11
      have hS11 := hE011.size
      rw [if_neg (by omega)] at hpar
      simp only at hpar
      refine c_dr (fun _ => False) (.one true 1 (.one true 2 (.one true 3 (.one true 5 (.one true 6 (.one true 7 (.one true 8 (.one true 9 (.one true 10 (.one false 0 (.one false 4 (.one false 11 (.one true 12 .nil))))))))))))) mixed (by kernel_rfl) ?_
      intro w12 hE12 hh
      have hs12 := hE12.size
      refine sxo ?_
      refine l_rw (t := 76) rfl (ci (by omega : _ = ((p + 6 + w16 (xs.drop (p + 2)) : Nat) : Int))) ?_
      refine sxo ?_
      refine l_bsl rfl rfl rfl rfl (by rfl) (by rfl) (by rfl) ?_
      intro b13 w13 hN13
      have hE13 := hE12.trans hN13.ex
      refine ⟨hE13, ?_⟩
      have hO13 : OwB w13 w11.heap.size 5 (some ⟨b13, 0, none⟩) 0 [] := Own.mk (rest := []) (by have := hN13.at_; omega) hN13.hb rfl (Nat.le_refl _) (Nat.zero_le _) rfl
      have hA13 := ((OwB.by hL11).take (k := w16 (xs.drop p)) (by omega)).ex hE13
      refine sxo ?_
      refine l_appB rfl rfl rfl rfl rfl rfl hO13 hA13.src hA13.nil (by simp; omega) (by simp; omega) hE13.size ?_
      intro a14 c14 w14 hO14 hG14
      have hE14 : Ex w11 w14 := hG14.ex0 hE13 hO13 (Nat.le_refl _)
      refine ⟨hE14, ?_⟩
      have hA14 := (hb11.sl (j := p + 6) (k := p + 6 + w16 (xs.drop (p + 2))) (by omega) (by omega)).ex hE14
      refine sxo ?_
      refine l_appB rfl rfl rfl rfl rfl rfl hO14 hA14.src hA14.nil (by simp; omega) (by simp; omega) hE14.size ?_
      intro a15 c15 w15 hO15 hG15
      have hE15 : Ex w11 w15 := hG15.ex0 hE14 hO14 (Nat.le_refl _)
      refine ⟨hE15, ?_⟩
      obtain ⟨kk, hkk⟩ : ∃ kk, kk = (lastSB es).xs.take (w16 (xs.drop p)) ++ (xs.take (p + 6 + w16 (xs.drop (p + 2)))).drop (p + 6) := ⟨_, rfl⟩
      rw [List.nil_append, ← hkk] at hO15 ⊢
      rw [← hkk] at hpar
      have hkl : kk.length ≤ 131072 := by rw [hkk]; simp; omega
      refine sxo ?_
      refine l_bsl rfl rfl rfl rfl (by rfl) (by rfl) (by rfl) ?_
      intro b16 w16' hN16
      refine ⟨trivial, ?_⟩
      have hE16 := hE15.trans hN16.ex
      have hO16 : OwB w16' w15.heap.size 5 (some ⟨b16, 0, none⟩) 0 [] := Own.mk (rest := []) (by have := hN16.at_; omega) hN16.hb rfl (Nat.le_refl _) (Nat.zero_le _) rfl
      refine sxo ?_
      have hA16 := (hb11.sl (j := p + 6 + w16 (xs.drop (p + 2))) (k := p + 6 + w16 (xs.drop (p + 2)) + w16 (xs.drop (p + 4))) (by omega) (by omega)).ex hE16
      have s16 := hN16.sz
      refine l_appB rfl rfl rfl rfl rfl rfl hO16 hA16.src hA16.nil (by simp; omega) (by simp; omega) (by omega) ?_
      intro a17 c17 w17 hO17 hG17
      refine ⟨trivial, ?_⟩
      have hE1517 : Ex w15 w17 := hG17.ex0 hN16.ex hO16 (Nat.le_refl _)
      obtain ⟨vv, hvv⟩ : ∃ vv, vv = (xs.take (p + 6 + w16 (xs.drop (p + 2)) + w16 (xs.drop (p + 4)))).drop (p + 6 + w16 (xs.drop (p + 2))) := ⟨_, rfl⟩
      rw [List.nil_append, ← hvv] at hO17 ⊢
      rw [← hvv] at hpar
      have hvl : vv.length ≤ 65536 := by rw [hvv]; simp; omega
      refine l_y rfl rfl (y_build (cs := [.slice a15 kk.length c15, .slice a17 vv.length c17]) rfl (fun _ => by kernel_rfl)) ?_
      refine l_bsl rfl rfl rfl rfl (by rfl) (by rfl) (by rfl) ?_
      intro b18 w18 hN18
      refine ⟨trivial, ?_⟩
      have hE1518 := hE1517.trans hN18.ex
      have hE18 : Ex w11 w18 := hE15.trans hE1518
      have hO18 := hO11.ex hE18
      have s15 := hE15.size
      have s17 := hE1517.size
      have s18 := hN18.sz
      have hKk : OwB w18 w11.heap.size 5 a15 c15 kk := hO15.ex hE1518
      have hVv : OwB w18 w15.heap.size 5 a17 c17 vv := hO17.ex hN18.ex
      have hb18 : HB w18 b18 47 (KV.cells ⟨a15, c15, kk, a17, c17, vv⟩) := hN18.hb
      refine l_app (by decide : 0 < 2) rfl rfl rfl rfl rfl hO18.sl hb18.src (by rintro ⟨⟩) rfl (by intro v hv; simp only [KV.cells, List.mem_cons, List.not_mem_nil, or_false] at hv; rcases hv with rfl | rfl; rfl; rfl) (by omega) (by simp only [maxLen]; omega) (by omega) ?_
      intro la' lc' w19 hs19 hX19 hf19
      refine ⟨trivial, ?_⟩
      have hO19 : OwE w19 w.heap.size 47 5 la' lc' (es ++ [⟨a15, c15, kk, a17, c17, vv⟩]) := hO18.push hKk (hVv.mono (by omega)) (fun i h1 h2 => by
          have h3 := OwB.bl (i := i) hO15 h1
          have h4 := OwB.bl (i := i) hVv h2
          omega) (by omega) (by
          intro i g
          rcases g with g | g
          · have := hO11.bla g; omega
          · have := hO11.bl g; omega) hs19 ⟨hX19, hf19⟩
      have hE19 : Ex w w19 := (hE011.trans hE18).fresh hX19 (by intro i hi g; have := hO11.bla (i := i) g; omega)
      refine sxo ?_
      have hbd : 1 + kk.length + vv.length ≤ 262144 := by omega
      refine q_again (es.length + 1, la', lc', es ++ [⟨a15, c15, kk, a17, c17, vv⟩], p + 6 + w16 (xs.drop (p + 2)) + w16 (xs.drop (p + 4))) ⟨rfl, rfl, ?_, ?_, rfl, rfl, rfl, trivial⟩ ⟨hE19, hO19, by simp, by omega, by simp only; omega, ?_, ?_⟩ (by simp only; omega)
      · simp only [List.length_append]; rfl
      · simp only [lastSB_snoc]; rfl
      · simp only [lastSB_snoc]
        rw [hpar]
        have e1 : w16 xs - es.length - 1 = w16 xs - (es.length + 1) := by omega
        simp only [Option.map_map, e1]
        congr 1
        funext z
        simp [KV.p]
      · simp only [List.map_append, List.map_cons, List.map_nil, wt_snoc, KV.p]
        omega
  · have hlen' : es.length = w16 xs := by omega
    have h0 : w16 xs - es.length = 0 := by omega
    rw [h0, parse] at hpar
    simp only [Option.map_some, List.append_nil] at hpar
    have hS : Small (es.map KV.p) := by simp only [Small]; omega
    have hdec : decO size xs = if chkL size (es.map KV.p) = 0 ∧ encodeL (es.map KV.p) = xs then some (es.map KV.p) else none := by
      rw [decO, if_neg (by omega), hpar]
    refine sxo ?_
    refine l_call rfl rfl rfl rfl (rencode_go w8 la lc es hO8.en hS size hz) ?_
    rintro _ w9 ⟨a9, c9, bs, rfl, hE9, hO9, hbs⟩
    refine ⟨trivial, ?_⟩
    have hE09 := hE8.trans hE9
    have hb9 := hb.ex hE09
    have hB9 := OwB.by hO9
    have hle9 := hB9.len
    refine sxo ?_
    refine l_ifn rfl (fun g => ?_) (fun g => ?_)
    · refine sxo ?_
      exact q_ret2 rfl rfl rfl (dec_none hs (by rw [hdec, if_neg (fun g' => g g'.1)]) hE09)
    · rw [if_pos g] at hbs
      subst hbs
      refine sxo ?_
      refine c_ifn (p := encodeL (es.map KV.p) = xs) rfl (fun hne => ?_) (fun heq => ?_)
      · refine sxo ?_
        exact q_ret2 rfl rfl rfl (dec_none hs (by rw [hdec, if_neg (fun g' => hne g'.2)]) hE09)
      · have hd : decO size xs = some (es.map KV.p) := by rw [hdec, if_pos ⟨g, heq⟩]
        refine sxo ?_
        exact q_ret2 rfl rfl rfl ⟨la, lc, es, by simp [decC, hs, hd], hE09, hO8.ex hE9, by simp [decR, hs, hd]⟩
end Go.Sx
