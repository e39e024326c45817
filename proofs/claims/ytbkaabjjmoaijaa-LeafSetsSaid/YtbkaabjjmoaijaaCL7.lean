/- Part of a proof: walks through functions of the program, in the words of the calculus of the texts Sx. -/
import Derived.Test.YtbkaabjjmoaijaaCL6
namespace Go.Sx
open Go Go.Proofs
set_option maxRecDepth 10000

/-- What is given up by. -/
def badE : List PanicEntry := [{ v := .iface 77 (.agg #[]), recovered := false }]
/-- A reader, and the bytes that it has yet. -/
structure Rd (w : World) (rb : Nat) (a : Option Addr) (c : Nat) (xs : Bs) : Prop where
  hb : HB w rb 81 [.slice a xs.length c]
  by_ : By w a c xs
  ne : xs ≠ [] → ∀ ad, a = some ad → ad.block ≠ rb
theorem drop_ne {xs : Bs} {k : Nat} (h : xs.drop k ≠ []) : xs ≠ [] := by rintro rfl; simp at h
theorem take_ne {xs : Bs} {k : Nat} (h : xs.take k ≠ []) : xs ≠ [] := by rintro rfl; simp at h
theorem Rd.ex {w w' : World} {rb : Nat} {a : Option Addr} {c : Nat} {xs : Bs} (h : Rd w rb a c xs) (he : Ex w w') : Rd w' rb a c xs := ⟨h.hb.ex he, h.by_.ex he, h.ne⟩

theorem take_go (w : World) (rb : Nat) (a : Option Addr) (c : Nat) (xs : Bs) (h : Rd w rb a c xs) (k : Nat) : FnP Try.prog 71 #[.pointer (some ⟨rb, 0, none⟩), .int .i64 k] w
    (fun v w' => k ≤ xs.length ∧ v = .slice a k c ∧ Rd w' rb (sl a c k 1) (c - k) (xs.drop k) ∧ Ext (fun i => i = rb) w w') (fun ch w' => xs.length < k ∧ ch = badE ∧ w' = w) := by
  have hB := h.hb
  have hby := h.by_
  have hle := hby.le
  refine fn_enter Try.func71 rfl rfl rfl ?_
  refine sxo ?_
  refine c_if rfl (fun t => ?_) (fun t => ?_)
  · refine sxo ?_
    refine l_y rfl rfl (y_build (ps := []) (vals := []) (cs := []) rfl (fun _ => by kernel_rfl)) ?_; refine l_y rfl rfl (y_mki rfl (fun _ => by kernel_rfl)) ?_; refine l_panic rfl rfl rfl ?_; repeat (first | with_reducible apply q_then_panic | with_reducible apply q_blk_panic)
    exact q_panP ⟨by omega, rfl, rfl⟩
  · have hk : k ≤ xs.length := by omega
    refine sxo ?_
    refine l_store (o := 0) rfl rfl rfl rfl hB Nat.one_pos rfl ?_
    intro w2 hB2 hX2 hS2
    refine ⟨trivial, ?_⟩
    refine sxo ?_
    have hl : xs.length - k = (xs.drop k).length := by simp
    refine q_retP1 rfl rfl ⟨hk, rfl, ⟨?_, ?_, fun hx => sl_ne (h.ne (drop_ne hx))⟩, hX2⟩
    · rw [← hl]; exact hB2
    · exact (hby.drop hk).ext hX2 (fun ad e hx => sl_ne (h.ne (drop_ne hx)) ad e)

def w16 (xs : Bs) : Nat := (xs.getD 0 0).toNat * 256 + (xs.getD 1 0).toNat
theorem w16_lt (xs : Bs) : w16 xs < 65536 := by
  have h0 := (xs.getD 0 0).toNat_lt
  have h1 := (xs.getD 1 0).toNat_lt
  unfold w16; omega
theorem rtwo_go (w : World) (rb : Nat) (a : Option Addr) (c : Nat) (xs : Bs) (h : Rd w rb a c xs) : FnP Try.prog 50 #[.pointer (some ⟨rb, 0, none⟩)] w
    (fun v w' => 2 ≤ xs.length ∧ v = .int .i64 (w16 xs) ∧ Rd w' rb (sl a c 2 1) (c - 2) (xs.drop 2) ∧ Ext (fun i => i = rb) w w') (fun ch w' => xs.length < 2 ∧ ch = badE ∧ w' = w) := by
  refine fn_enter Try.func50 rfl rfl rfl ?_
  refine sxo ?_
  refine l_callP rfl rfl rfl rfl (take_go w rb a c xs h 2) ?_ ?_
  · rintro _ w2 ⟨h2, rfl, rfl⟩
    repeat (first | with_reducible apply q_then_panic | with_reducible apply q_blk_panic)
    exact q_panP ⟨h2, rfl, rfl⟩
  rintro _ w2 ⟨h2, rfl, hR, hX⟩
  refine ⟨trivial, ?_⟩
  obtain ⟨ad, rfl⟩ := h.by_.some (by omega)
  have hB : By w2 (some ad) c xs := h.by_.ext hX (fun ad e hx => h.ne hx ad e)
  have h0 := (xs.getD 0 0).toNat_lt
  have h1 := (xs.getD 1 0).toNat_lt
  refine sxo ?_
  refine c_dr (fun _ => False) (.one true 0 (.one true 1 (.one true 2 (.one true 3 (.one true 4 (.one true 5 (.one true 6 (.one true 7 (.one true 8 (.one true 9 (.one true 10 .nil))))))))))) mixed (by kernel_rfl) ?_
  intro w3 hE3 hh
  refine sxo ?_
  exact q_retP1 rfl rfl ⟨h2, rfl, hR.ex hE3, hX.trans hE3.ext⟩

/-- An entry, behind a key: it, and what is left. -/
def rdE (ah xs : Bs) : Option ((Bs × Bs) × Bs) :=
  if xs.length < 6 ∨ ah.length < w16 xs ∨ xs.length - 6 < w16 (xs.drop 2) + w16 (xs.drop 4) then none
  else some ((ah.take (w16 xs) ++ (xs.drop 6).take (w16 (xs.drop 2)), ((xs.drop 6).drop (w16 (xs.drop 2))).take (w16 (xs.drop 4))), (xs.drop 6).drop (w16 (xs.drop 2) + w16 (xs.drop 4)))

set_option maxHeartbeats 4000000 in
theorem entryR_go (w : World) (rb : Nat) (a : Option Addr) (c : Nat) (xs : Bs) (h : Rd w rb a c xs) (aa : Option Addr) (ac : Nat) (ah : Bs) (hA : By w aa ac ah) (hne : ∀ ad, aa = some ad → ad.block ≠ rb) (hrb : rb < w.heap.size) :
    FnP Try.prog 51 #[.pointer (some ⟨rb, 0, none⟩), .slice aa ah.length ac] w
    (fun v w' => ∃ (e : KV) (rest : Bs) (a' : Option Addr) (c' : Nat), rdE ah xs = some (e.p, rest) ∧ v = .agg e.cells.toArray ∧ Rd w' rb a' c' rest ∧ Ext (fun i => i = rb) w w' ∧ KO w' w.heap.size e ∧ ∀ w0, By w0 a c xs → By w0 a' c' rest)
    (fun ch w' => rdE ah xs = none ∧ ch = badE ∧ Ext (fun i => i = rb) w w') := by
  have hwx := w16_lt xs
  have hwx2 := w16_lt (xs.drop 2)
  have hwx4 := w16_lt (xs.drop 4)
  have hAl := hA.len
  refine fn_enter Try.func51 rfl rfl rfl ?_
  refine sxo ?_
  refine l_alloc rfl rfl rfl ?_
  intro b w1 hN1
  refine ⟨trivial, ?_⟩
  have hB1 : HB w1 b 47 [.slice none 0 0, .slice none 0 0] := hN1.hb
  have hX1 : Ext (fun i => i = rb) w w1 := hN1.ex.ext
  refine sxo ?_
  have hb : b = w.heap.size := hN1.at_
  refine l_callP rfl rfl rfl rfl (rtwo_go w1 rb a c xs (h.ex hN1.ex)) ?_ ?_
  · rintro _ w2 ⟨h2, rfl, rfl⟩
    repeat (first | with_reducible apply q_then_panic | with_reducible apply q_blk_panic)
    exact q_panP ⟨by rw [rdE, if_pos (.inl (by omega))], rfl, hX1⟩
  rintro _ w2 ⟨h2, rfl, hR2, hX12⟩
  have hX2 : Ext (fun i => i = rb) w w2 := hX1.trans hX12
  have hB2 := hB1.ext hX12 (by omega)
  refine ⟨trivial, ?_⟩
  refine sxo ?_
  refine l_callP rfl rfl rfl rfl (rtwo_go w2 rb _ _ _ hR2) ?_ ?_
  · rintro _ w3 ⟨h3, rfl, rfl⟩
    rw [List.length_drop] at h3
    repeat (first | with_reducible apply q_then_panic | with_reducible apply q_blk_panic)
    exact q_panP ⟨by rw [rdE, if_pos (.inl (by omega))], rfl, hX2⟩
  rintro _ w3 ⟨h3, rfl, hR3, hX23⟩
  rw [List.drop_drop] at hR3
  rw [List.length_drop] at h3
  have hX3 : Ext (fun i => i = rb) w w3 := hX2.trans hX23
  have hB3 := hB2.ext hX23 (by omega)
  refine ⟨trivial, ?_⟩
  refine sxo ?_
  refine l_callP rfl rfl rfl rfl (rtwo_go w3 rb _ _ _ hR3) ?_ ?_
  · rintro _ w4 ⟨h4, rfl, rfl⟩
    rw [List.length_drop] at h4
    repeat (first | with_reducible apply q_then_panic | with_reducible apply q_blk_panic)
    exact q_panP ⟨by rw [rdE, if_pos (.inl (by omega))], rfl, hX3⟩
  rintro _ w4 ⟨h4, rfl, hR4, hX34⟩
  rw [List.drop_drop] at hR4
  rw [List.length_drop] at h4
  have hX4 : Ext (fun i => i = rb) w w4 := hX3.trans hX34
  have hB4 := hB3.ext hX34 (by omega)
  refine ⟨trivial, ?_⟩
  simp only [Nat.reduceAdd] at hR4 h4 ⊢
  refine sxo ?_
  refine c_if rfl (fun t => ?_) (fun t => ?_)
  · refine sxo ?_
    refine l_y rfl rfl (y_build (ps := []) (vals := []) (cs := []) rfl (fun _ => by kernel_rfl)) ?_; refine l_y rfl rfl (y_mki rfl (fun _ => by kernel_rfl)) ?_; refine l_panic rfl rfl rfl ?_; repeat (first | with_reducible apply q_then_panic | with_reducible apply q_blk_panic)
    exact q_panP ⟨by rw [rdE, if_pos (.inr (.inl (by omega)))], rfl, hX4⟩
  have hA4 : By w4 aa ac ah := hA.ext hX4 (fun ad e _ => hne ad e)
  have hAl := hA.le
  refine sxo ?_
  have hS4 := hX4.size
  have s1 := hN1.sz
  have s2 := hX12.size
  have s3 := hX23.size
  have s34 := hX34.size
  have hByW : ∀ w0, By w0 a c xs → By w0 (sl (sl (sl a c 2 1) (c - 2) 2 1) (c - 2 - 2) 2 1) (c - 2 - 2 - 2) (xs.drop 6) := by
    intro w0 hb0
    have := ((hb0.drop h2).drop (j := 2) (by simp only [List.length_drop]; omega)).drop (j := 2) (by simp only [List.length_drop]; omega)
    simpa only [List.drop_drop] using this
  refine c_cut (ι := Option Addr × Nat × Nat × Option Addr × Nat) (fun x => [(0, .pointer (some ⟨rb, 0, none⟩)), (7, .int .i64 (w16 (xs.drop 4))), (4, .pointer (some ⟨b, 0, none⟩)), (8, .pointer (some ⟨x.2.2.1, 0, none⟩))])
    (fun x w' => ah.length ≥ w16 xs ∧ w16 (xs.drop 2) ≤ xs.length - 6 ∧ (∀ w0, By w0 a c xs → By w0 x.2.2.2.1 x.2.2.2.2 ((xs.drop 6).drop (w16 (xs.drop 2)))) ∧ Ext (fun i => i = rb) w4 w' ∧ Rd w' rb x.2.2.2.1 x.2.2.2.2 ((xs.drop 6).drop (w16 (xs.drop 2))) ∧ HB w' x.2.2.1 47 [.slice x.1 (ah.take (w16 xs) ++ (xs.drop 6).take (w16 (xs.drop 2))).length x.2.1, .slice none 0 0] ∧
      OwB w' w4.heap.size 5 x.1 x.2.1 (ah.take (w16 xs) ++ (xs.drop 6).take (w16 (xs.drop 2))) ∧ w4.heap.size ≤ x.2.2.1 ∧ ¬ blk x.1 = some x.2.2.1) ?_ ?_
  · refine c_drP (fun i => i = rb) (.one true 0 (.one true 1 (.one true 2 (.one true 3 (.one true 4 (.alt (.one false 5 (.alt (.one false 6 (.alt (.one false 7 (.one true 8 (.one false 9 (.one false 10 .nil)))) (.one false 9 (.one false 7 (.one true 8 (.one false 10 .nil)))))) (.one false 9 (.one false 6 (.one false 7 (.one true 8 (.one false 10 .nil))))))) (.one false 9 (.one false 5 (.one false 6 (.one false 7 (.one true 8 (.one false 10 .nil)))))))))))) mixed [] (fun ch w' => rdE ah xs = none ∧ ch = badE ∧ Ext (fun i => i = rb) w w') rfl (by kernel_rfl) ?_ ?_
    · rintro ch w' ⟨h1, h2, h3⟩
      repeat (first | with_reducible apply q_then_panic | with_reducible apply q_blk_panic)
      exact q_panP ⟨h1, h2, h3⟩
    intro w5 hE5 hh5
    have hR5 := hR4.ex hE5
    have hX5 : Ext (fun i => i = rb) w w5 := hX4.trans hE5.ext
    have hA5 := hA4.ex hE5
    have s5 := hE5.size
    have e1 : (ah.take (w16 xs)).length = w16 xs := by simp; omega
    refine sxo ?_
    refine l_alt ?_ ?_
    · refine l_callP rfl rfl rfl rfl (take_go w5 rb _ _ _ (hR5.ex (Ex.refl' w5)) (w16 (xs.drop 2))) (by rintro _ wq ⟨h6, rfl, hwq⟩; rw [hwq]; rw [List.length_drop] at h6; exact q_panto_panic trivial ⟨by rw [rdE, if_pos (.inr (.inr (by omega)))], rfl, hX5.trans (Ex.ext (Ex.refl' w5))⟩) ?_; rintro _ w6 ⟨h6, rfl, hRT, hXT⟩; have hXw6 : Ext (fun i => i = rb) w5 w6 := (Ex.ext (Ex.refl' w5)).trans hXT; refine ⟨(Ex.ext hE5).trans hXw6, ?_⟩; have h6' := h6; rw [List.length_drop] at h6
      refine l_alt ?_ ?_
      · (refine sxo ?_); refine l_bsl rfl rfl rfl rfl (by rfl) (by rfl) (by rfl) ?_; intro bB w7 hNB; have hXw7 := hXw6.trans (Ex.ext hNB.ex); refine ⟨(Ex.ext hE5).trans hXw7, ?_⟩; have hBb := hNB.hb; have hA6 := (hA5.take (by omega : w16 xs ≤ ah.length)).ext hXw7 (fun ad e _ => hne ad e); have hP6 := ((hR5.by_).take h6').ext hXw7 (fun ad e hx => hR5.ne (take_ne hx) ad e)
        refine l_alt ?_ ?_
        · (refine sxo ?_); refine l_call rfl rfl rfl rfl (concat2_go w7 _ _ _ _ _ _ _ _ _ (hBb) (hA6) (hP6) e1.symm (by simp only [List.length_take, List.length_drop]; omega) (by omega)) ?_; rintro _ w8 ⟨a8, c8, rfl, hEC, hO8⟩; have hXw8 := hXw7.trans (Ex.ext hEC); refine ⟨(Ex.ext hE5).trans hXw8, ?_⟩; refine l_y rfl rfl (y_build (cs := [.slice a8 (ah.take (w16 xs) ++ (xs.drop 6).take (w16 (xs.drop 2))).length c8, .slice none 0 0]) rfl (fun _ => by kernel_rfl)) ?_
          (refine sxo ?_); refine l_alloc rfl rfl rfl ?_; intro b9 w9 hNA; have hXw9 := hXw8.trans (Ex.ext hNA.ex); refine ⟨(Ex.ext hE5).trans hXw9, ?_⟩
          (refine sxo ?_); refine l_storeA (o := 0) rfl rfl rfl rfl (hNA.hb) (Nat.le_refl _) rfl rfl ?_; intro w10 hB10 hX910 hS10; have hb9 := hNA.at_; have hlt9 := hNA.sz; have t1 := hNB.sz; have t2 := hEC.size; have t3 := hXT.size; have hX510 : Ext (fun i => i = rb) w5 w10 := hXw9.fresh hX910 (by intro i hi e; omega); refine ⟨(Ex.ext hE5).trans hX510, ?_⟩; (refine sxo ?_); refine q_mid (_, _, _, _, _) ⟨rfl, rfl, rfl, rfl, trivial⟩ ⟨by omega, h6, (fun w0 h0 => (hByW w0 h0).drop h6'), (Ex.ext hE5).trans hX510, ⟨((((hRT.hb.ex hNB.ex).ex hEC).ex hNA.ex).ext hX910 (by omega)), ((hR5.by_).drop h6').ext hX510 (fun ad e hx => sl_ne (hR5.ne (drop_ne hx)) ad e), fun hx => sl_ne (hR5.ne (drop_ne hx))⟩, hB10, (Own.mono (hO8.ex hNA.ex) (by omega)).ext hX910 (fun ad e h' => by { subst e; have := hO8.ge; have h' : ad.block = b9 := h'; omega }), (by show w4.heap.size ≤ b9; omega), fun h => by { cases a8 with | none => cases h | some ad => (have := hO8.ge; simp only [blk, Option.map_some, Option.some.injEq] at h; omega) }⟩
        · (refine sxo ?_); refine l_alloc rfl rfl rfl ?_; intro b9 w8 hNA; have hXw8 := hXw7.trans (Ex.ext hNA.ex); refine ⟨(Ex.ext hE5).trans hXw8, ?_⟩
          (refine sxo ?_); refine l_call rfl rfl rfl rfl (concat2_go w8 _ _ _ _ _ _ _ _ _ (hBb.ex hNA.ex) (hA6.ex hNA.ex) (hP6.ex hNA.ex) e1.symm (by simp only [List.length_take, List.length_drop]; omega) (by omega)) ?_; rintro _ w9 ⟨a8, c8, rfl, hEC, hO8⟩; have hXw9 := hXw8.trans (Ex.ext hEC); refine ⟨(Ex.ext hE5).trans hXw9, ?_⟩; refine l_y rfl rfl (y_build (cs := [.slice a8 (ah.take (w16 xs) ++ (xs.drop 6).take (w16 (xs.drop 2))).length c8, .slice none 0 0]) rfl (fun _ => by kernel_rfl)) ?_
          (refine sxo ?_); refine l_storeA (o := 0) rfl rfl rfl rfl (hNA.hb.ex hEC) (Nat.le_refl _) rfl rfl ?_; intro w10 hB10 hX910 hS10; have hb9 := hNA.at_; have hlt9 := hNA.sz; have t1 := hNB.sz; have t2 := hEC.size; have t3 := hXT.size; have hX510 : Ext (fun i => i = rb) w5 w10 := hXw9.fresh hX910 (by intro i hi e; omega); refine ⟨(Ex.ext hE5).trans hX510, ?_⟩; (refine sxo ?_); refine q_mid (_, _, _, _, _) ⟨rfl, rfl, rfl, rfl, trivial⟩ ⟨by omega, h6, (fun w0 h0 => (hByW w0 h0).drop h6'), (Ex.ext hE5).trans hX510, ⟨((((hRT.hb.ex hNB.ex).ex hNA.ex).ex hEC).ext hX910 (by omega)), ((hR5.by_).drop h6').ext hX510 (fun ad e hx => sl_ne (hR5.ne (drop_ne hx)) ad e), fun hx => sl_ne (hR5.ne (drop_ne hx))⟩, hB10, (Own.mono (hO8) (by omega)).ext hX910 (fun ad e h' => by { subst e; have := hO8.ge; have h' : ad.block = b9 := h'; omega }), (by show w4.heap.size ≤ b9; omega), fun h => by { cases a8 with | none => cases h | some ad => (have := hO8.ge; simp only [blk, Option.map_some, Option.some.injEq] at h; omega) }⟩
      · (refine sxo ?_); refine l_alloc rfl rfl rfl ?_; intro b9 w7 hNA; have hXw7 := hXw6.trans (Ex.ext hNA.ex); refine ⟨(Ex.ext hE5).trans hXw7, ?_⟩
        (refine sxo ?_); refine l_bsl rfl rfl rfl rfl (by rfl) (by rfl) (by rfl) ?_; intro bB w8 hNB; have hXw8 := hXw7.trans (Ex.ext hNB.ex); refine ⟨(Ex.ext hE5).trans hXw8, ?_⟩; have hBb := hNB.hb; have hA6 := (hA5.take (by omega : w16 xs ≤ ah.length)).ext hXw8 (fun ad e _ => hne ad e); have hP6 := ((hR5.by_).take h6').ext hXw8 (fun ad e hx => hR5.ne (take_ne hx) ad e)
        (refine sxo ?_); refine l_call rfl rfl rfl rfl (concat2_go w8 _ _ _ _ _ _ _ _ _ (hBb) (hA6) (hP6) e1.symm (by simp only [List.length_take, List.length_drop]; omega) (by omega)) ?_; rintro _ w9 ⟨a8, c8, rfl, hEC, hO8⟩; have hXw9 := hXw8.trans (Ex.ext hEC); refine ⟨(Ex.ext hE5).trans hXw9, ?_⟩; refine l_y rfl rfl (y_build (cs := [.slice a8 (ah.take (w16 xs) ++ (xs.drop 6).take (w16 (xs.drop 2))).length c8, .slice none 0 0]) rfl (fun _ => by kernel_rfl)) ?_
        (refine sxo ?_); refine l_storeA (o := 0) rfl rfl rfl rfl ((hNA.hb.ex hNB.ex).ex hEC) (Nat.le_refl _) rfl rfl ?_; intro w10 hB10 hX910 hS10; have hb9 := hNA.at_; have hlt9 := hNA.sz; have t1 := hNB.sz; have t2 := hEC.size; have t3 := hXT.size; have hX510 : Ext (fun i => i = rb) w5 w10 := hXw9.fresh hX910 (by intro i hi e; omega); refine ⟨(Ex.ext hE5).trans hX510, ?_⟩; (refine sxo ?_); refine q_mid (_, _, _, _, _) ⟨rfl, rfl, rfl, rfl, trivial⟩ ⟨by omega, h6, (fun w0 h0 => (hByW w0 h0).drop h6'), (Ex.ext hE5).trans hX510, ⟨((((hRT.hb.ex hNA.ex).ex hNB.ex).ex hEC).ext hX910 (by omega)), ((hR5.by_).drop h6').ext hX510 (fun ad e hx => sl_ne (hR5.ne (drop_ne hx)) ad e), fun hx => sl_ne (hR5.ne (drop_ne hx))⟩, hB10, (Own.mono (hO8) (by omega)).ext hX910 (fun ad e h' => by { subst e; have := hO8.ge; have h' : ad.block = b9 := h'; omega }), (by show w4.heap.size ≤ b9; omega), fun h => by { cases a8 with | none => cases h | some ad => (have := hO8.ge; simp only [blk, Option.map_some, Option.some.injEq] at h; omega) }⟩
    · have hXw5 : Ext (fun i => i = rb) w5 w5 := Ext.refl w5
      (refine sxo ?_); refine l_alloc rfl rfl rfl ?_; intro b9 w6 hNA; have hXw6 := hXw5.trans (Ex.ext hNA.ex); refine ⟨(Ex.ext hE5).trans hXw6, ?_⟩
      refine l_callP rfl rfl rfl rfl (take_go w6 rb _ _ _ (hR5.ex (hNA.ex)) (w16 (xs.drop 2))) (by rintro _ wq ⟨h6, rfl, hwq⟩; rw [hwq]; rw [List.length_drop] at h6; exact q_panto_panic trivial ⟨by rw [rdE, if_pos (.inr (.inr (by omega)))], rfl, hX5.trans (Ex.ext (hNA.ex))⟩) ?_; rintro _ w7 ⟨h6, rfl, hRT, hXT⟩; have hXw7 : Ext (fun i => i = rb) w5 w7 := (Ex.ext (hNA.ex)).trans hXT; refine ⟨(Ex.ext hE5).trans hXw7, ?_⟩; have h6' := h6; rw [List.length_drop] at h6
      (refine sxo ?_); refine l_bsl rfl rfl rfl rfl (by rfl) (by rfl) (by rfl) ?_; intro bB w8 hNB; have hXw8 := hXw7.trans (Ex.ext hNB.ex); refine ⟨(Ex.ext hE5).trans hXw8, ?_⟩; have hBb := hNB.hb; have hA6 := (hA5.take (by omega : w16 xs ≤ ah.length)).ext hXw8 (fun ad e _ => hne ad e); have hP6 := ((hR5.by_).take h6').ext hXw8 (fun ad e hx => hR5.ne (take_ne hx) ad e)
      (refine sxo ?_); refine l_call rfl rfl rfl rfl (concat2_go w8 _ _ _ _ _ _ _ _ _ (hBb) (hA6) (hP6) e1.symm (by simp only [List.length_take, List.length_drop]; omega) (by omega)) ?_; rintro _ w9 ⟨a8, c8, rfl, hEC, hO8⟩; have hXw9 := hXw8.trans (Ex.ext hEC); refine ⟨(Ex.ext hE5).trans hXw9, ?_⟩; refine l_y rfl rfl (y_build (cs := [.slice a8 (ah.take (w16 xs) ++ (xs.drop 6).take (w16 (xs.drop 2))).length c8, .slice none 0 0]) rfl (fun _ => by kernel_rfl)) ?_
      (refine sxo ?_); refine l_storeA (o := 0) rfl rfl rfl rfl (((hNA.hb.ext hXT (by have := hNA.at_; omega)).ex hNB.ex).ex hEC) (Nat.le_refl _) rfl rfl ?_; intro w10 hB10 hX910 hS10; have hb9 := hNA.at_; have hlt9 := hNA.sz; have t1 := hNB.sz; have t2 := hEC.size; have t3 := hXT.size; have hX510 : Ext (fun i => i = rb) w5 w10 := hXw9.fresh hX910 (by intro i hi e; omega); refine ⟨(Ex.ext hE5).trans hX510, ?_⟩; (refine sxo ?_); refine q_mid (_, _, _, _, _) ⟨rfl, rfl, rfl, rfl, trivial⟩ ⟨by omega, h6, (fun w0 h0 => (hByW w0 h0).drop h6'), (Ex.ext hE5).trans hX510, ⟨(((hRT.hb.ex hNB.ex).ex hEC).ext hX910 (by omega)), ((hR5.by_).drop h6').ext hX510 (fun ad e hx => sl_ne (hR5.ne (drop_ne hx)) ad e), fun hx => sl_ne (hR5.ne (drop_ne hx))⟩, hB10, (Own.mono (hO8) (by omega)).ext hX910 (fun ad e h' => by { subst e; have := hO8.ge; have h' : ad.block = b9 := h'; omega }), (by show w4.heap.size ≤ b9; omega), fun h => by { cases a8 with | none => cases h | some ad => (have := hO8.ge; simp only [blk, Option.map_some, Option.some.injEq] at h; omega) }⟩
  · rintro ⟨a8, c8, b9, ra, rc⟩ w10 ⟨hah, hm6, hbw, hX410, hR10, hB10, hO10, hb9, hdj⟩
    simp only at hbw hR10 hB10 hO10 hb9 hdj ⊢
    have hX10 := hX4.trans hX410
    have hl8 := (OwB.by hO10).len
    refine CJ.out ?_
    refine sxo ?_
    refine l_callP rfl rfl rfl rfl (take_go w10 rb _ _ _ hR10 (w16 (xs.drop 4))) ?_ ?_
    · rintro _ w11 ⟨h11, rfl, rfl⟩
      rw [List.length_drop, List.length_drop] at h11
      repeat (first | with_reducible apply q_then_panic | with_reducible apply q_blk_panic)
      exact q_panP ⟨by rw [rdE, if_pos (.inr (.inr (by omega)))], rfl, hX10⟩
    rintro _ w11 ⟨h11, rfl, hR11, hX1011⟩
    refine ⟨trivial, ?_⟩
    have hV := (hR10.by_).take h11
    rw [List.length_drop, List.length_drop] at h11
    have hV11 := hV.ext hX1011 (fun ad e hx => hR10.ne (take_ne hx) ad e)
    have e3 : (((xs.drop 6).drop (w16 (xs.drop 2))).take (w16 (xs.drop 4))).length = w16 (xs.drop 4) := by simp only [List.length_take, List.length_drop]; omega
    have hB11 := hB10.ext hX1011 (by omega)
    have hO11 := hO10.ext hX1011 (fun ad e => by subst e; have := hO10.ge; omega)
    refine sxo ?_
    have hcl := clone_go w11 _ _ _ hV11 (by rw [e3]; omega)
    rw [e3] at hcl
    refine l_call rfl rfl rfl rfl hcl ?_
    rintro _ w12 ⟨a12, c12, rfl, hE12, hO12⟩
    refine ⟨trivial, ?_⟩
    have hB12 := hB11.ex hE12
    refine sxo ?_
    have hl2 := hB10.lt
    have hl4 := hX1011.size
    have hl3 := hX1.size
    have hl5 := hX4.size
    have hl6 := hX410.size
    have hl7 := hB4.lt
    refine l_store (o := 1) rfl rfl rfl rfl hB12 (Nat.le_refl _) rfl ?_
    intro w13 hB13 hX13 hS13
    refine ⟨trivial, ?_⟩
    rw [e3] at hB13
    have hB13 : HB w13 b9 47 [.slice a8 (ah.take (w16 xs) ++ (xs.drop 6).take (w16 (xs.drop 2))).length c8, .slice a12 (w16 (xs.drop 4)) c12] := hB13
    have hBb : HB w13 b 47 [.slice none 0 0, .slice none 0 0] := (((hB4.ext hX410 (by omega)).ext hX1011 (by omega)).ex hE12).ext hX13 (by omega)
    have hRh : HB w13 rb _ _ := ((hR11.hb).ex hE12).ext hX13 (by omega)
    refine sxo ?_
    refine l_storeA (o := 0) rfl rfl rfl rfl hBb (Nat.le_refl _) rfl rfl ?_
    intro w14 hB14 hX14 hS14
    refine ⟨trivial, ?_⟩
    have hB14 : HB w14 b 47 [.slice a8 (ah.take (w16 xs) ++ (xs.drop 6).take (w16 (xs.drop 2))).length c8, .slice a12 (w16 (xs.drop 4)) c12] := hB14
    have hl12 := hE12.size
    have hX014 : Ext (fun i => i = rb) w w14 := (((hX10.trans hX1011).trans hE12.ext).fresh hX13 (by intro i hi e; omega)).fresh hX14 (by intro i hi e; omega)
    refine sxo ?_
    refine q_retPc (vs := [.slice a8 (ah.take (w16 xs) ++ (xs.drop 6).take (w16 (xs.drop 2))).length c8, .slice a12 (w16 (xs.drop 4)) c12]) rfl rfl hB14 rfl ⟨⟨a8, c8, ah.take (w16 xs) ++ (xs.drop 6).take (w16 (xs.drop 2)), a12, c12, ((xs.drop 6).drop (w16 (xs.drop 2))).take (w16 (xs.drop 4))⟩, _, _, _, ?_, ?_, ⟨hRh.ext hX14 (by omega), ?_, hR11.ne⟩, hX014, ⟨?_, ?_, ?_⟩, ?_⟩
    · rw [rdE, if_neg (by omega)]
      simp only [KV.p, List.drop_drop, Nat.add_assoc]
    · simp only [KV.cells, e3]
    · exact ((hbw w h.by_).drop (by simp only [List.length_drop]; omega)).ext hX014 (fun ad e hx => hR11.ne hx ad e)
    · refine Own.mono (B := w4.heap.size) ?_ (by omega)
      refine ((hO11.ex hE12).ext hX13 (fun ad e h' => ?_)).ext hX14 (fun ad e h' => ?_)
      · have h' : ad.block = b9 := h'
        exact hdj (by rw [e]; simp [blk, h'])
      · have h' : ad.block = b := h'
        subst e
        have := hO10.ge
        omega
    · refine Own.mono (B := w11.heap.size) ?_ (by omega)
      refine (hO12.ext hX13 (fun ad e h' => ?_)).ext hX14 (fun ad e h' => ?_)
      · have h' : ad.block = b9 := h'
        subst e
        have := hO12.ge
        omega
      · have h' : ad.block = b := h'
        subst e
        have := hO12.ge
        omega
    · intro i h1 h2
      have h3 := hO12.out (i := i)
      cases a8 with
      | none => cases h1
      | some ad =>
        have := hO10.ge
        simp only [blk, Option.map_some, Option.some.injEq] at h1
        exact h3 (by omega) h2
    · exact fun w0 h0 => (hbw w0 h0).drop (by simp only [List.length_drop]; omega)
end Go.Sx
