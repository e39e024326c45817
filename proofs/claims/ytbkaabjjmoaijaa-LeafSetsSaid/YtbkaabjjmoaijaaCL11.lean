/- Part of a proof: walks through functions of the program, in the words of the calculus of the texts Sx. -/
import Derived.Test.YtbkaabjjmoaijaaCL10
namespace Go.Sx
open Go Go.Proofs
set_option maxRecDepth 10000

theorem cells_by {w : World} {b : Nat} {xs : Bs} (h : Cells w ⟨b, 0, none⟩ (xs.map bv)) (hm : xs.length ≤ maxLen) : By w (some ⟨b, 0, none⟩) xs.length xs :=
  ⟨Nat.le_refl _, hm, (fun e => by cases e), fun ad e => (by cases e; exact h)⟩
theorem HB.en {w : World} {b T : Nat} {es : List KV} (h : HB w b T (es.flatMap KV.cells)) (hm : es.length ≤ maxLen) (hb : ∀ e, e ∈ es → By w e.ka e.kc e.k ∧ By w e.va e.vc e.v) : En w (some ⟨b, 0, none⟩) es.length es :=
  ⟨Nat.le_refl _, hm, (fun e => by cases e), fun ad e => (by cases e; exact h.cells), hb⟩

def twoL : Ps := [([97, 98], [49]), ([97, 98, 99], [50, 51])]
theorem twoA_go (w : World) : Fn Try.prog 39 #[] w (fun v w' => ∃ (b : Nat) (es : List KV), v = .slice (some ⟨b, 0, none⟩) es.length es.length ∧ es.map KV.p = twoL ∧ En w' (some ⟨b, 0, none⟩) es.length es ∧ Ex w w') := by
  refine fn_enter Try.func39 rfl rfl rfl ?_
  refine sxo ?_
  refine l_bsl rfl rfl rfl rfl (by rfl) (by rfl) (by rfl) ?_
  intro b1 v1 hN1
  refine ⟨trivial, ?_⟩
  refine l_convb (vs := ([97, 98] : Bs).map bv) rfl rfl rfl rfl hN1.hb ?_
  intro w1 hX1 hc1 hs1
  refine ⟨trivial, ?_⟩
  have hE1 : Ex w w1 := hN1.ex.fresh hX1 (by intro i hi e; have := hN1.at_; omega)
  have h1 : By w1 (some ⟨b1, 0, none⟩) ([97, 98] : Bs).length [97, 98] := cells_by hc1 (by simp [maxLen])
  refine l_bsl rfl rfl rfl rfl (by rfl) (by rfl) (by rfl) ?_
  intro b2 v2 hN2
  refine ⟨trivial, ?_⟩
  refine l_convb (vs := ([49] : Bs).map bv) rfl rfl rfl rfl hN2.hb ?_
  intro w2 hX2 hc2 hs2
  refine ⟨trivial, ?_⟩
  have hE2 : Ex w1 w2 := hN2.ex.fresh hX2 (by intro i hi e; have := hN2.at_; omega)
  have h2 : By w2 (some ⟨b2, 0, none⟩) ([49] : Bs).length [49] := cells_by hc2 (by simp [maxLen])
  refine l_y rfl rfl (y_build (cs := [.slice (some ⟨b1, 0, none⟩) 2 2, .slice (some ⟨b2, 0, none⟩) 1 1]) rfl (fun _ => by kernel_rfl)) ?_
  refine l_bsl rfl rfl rfl rfl (by rfl) (by rfl) (by rfl) ?_
  intro b3 v3 hN3
  refine ⟨trivial, ?_⟩
  refine l_convb (vs := ([97, 98, 99] : Bs).map bv) rfl rfl rfl rfl hN3.hb ?_
  intro w3 hX3 hc3 hs3
  refine ⟨trivial, ?_⟩
  have hE3 : Ex w2 w3 := hN3.ex.fresh hX3 (by intro i hi e; have := hN3.at_; omega)
  have h3 : By w3 (some ⟨b3, 0, none⟩) ([97, 98, 99] : Bs).length [97, 98, 99] := cells_by hc3 (by simp [maxLen])
  refine l_bsl rfl rfl rfl rfl (by rfl) (by rfl) (by rfl) ?_
  intro b4 v4 hN4
  refine ⟨trivial, ?_⟩
  refine l_convb (vs := ([50, 51] : Bs).map bv) rfl rfl rfl rfl hN4.hb ?_
  intro w4 hX4 hc4 hs4
  refine ⟨trivial, ?_⟩
  have hE4 : Ex w3 w4 := hN4.ex.fresh hX4 (by intro i hi e; have := hN4.at_; omega)
  have h4 : By w4 (some ⟨b4, 0, none⟩) ([50, 51] : Bs).length [50, 51] := cells_by hc4 (by simp [maxLen])
  refine l_y rfl rfl (y_build (cs := [.slice (some ⟨b3, 0, none⟩) 3 3, .slice (some ⟨b4, 0, none⟩) 2 2]) rfl (fun _ => by kernel_rfl)) ?_
  refine l_bsl rfl rfl rfl rfl (by rfl) (by rfl) (by rfl) ?_
  intro b5 w5 hN5
  refine ⟨trivial, ?_⟩
  have e1 := hE2.trans (hE3.trans (hE4.trans hN5.ex))
  have e2 := hE3.trans (hE4.trans hN5.ex)
  have e3 := hE4.trans hN5.ex
  refine sxo ?_
  refine q_ret1 rfl rfl ⟨b5, [⟨some ⟨b1, 0, none⟩, 2, [97, 98], some ⟨b2, 0, none⟩, 1, [49]⟩, ⟨some ⟨b3, 0, none⟩, 3, [97, 98, 99], some ⟨b4, 0, none⟩, 2, [50, 51]⟩], rfl, rfl, HB.en hN5.hb (by simp [maxLen]) ?_, hE1.trans e1⟩
  intro e he
  simp only [List.mem_cons, List.not_mem_nil, or_false] at he
  rcases he with rfl | rfl
  · exact ⟨h1.ex e1, h2.ex e2⟩
  · exact ⟨h3.ex e3, h4.ex hN5.ex⟩

theorem num_go (w : World) (x : Int) : Fn Try.prog 13 #[.int .i64 x] w (fun v w' => v = .int .i64 x ∧ w' = w) := by
  refine fn_enter Try.func13 rfl rfl rfl ?_
  refine sxo ?_
  exact q_ret1 rfl rfl ⟨rfl, rfl⟩

def twoB : Bs := [0, 2, 0, 0, 0, 2, 0, 1, 97, 98, 49, 0, 2, 0, 1, 0, 2, 99, 50, 51]
theorem twoL_chk : chkL 512 twoL = 0 := by decide +kernel
theorem twoL_enc : encodeL twoL = twoB := by decide +kernel
theorem twoB_dec : decO 512 twoB = some twoL := by decide +kernel

theorem shown_go (w : World) : Fn Try.prog 12 #[] w (fun v w' => v = .bool true ∧ Ex w w') := by
  refine fn_enter Try.func12 rfl rfl rfl ?_
  refine sxo ?_
  refine l_call rfl rfl rfl rfl (twoA_go w) ?_
  rintro _ w1 ⟨b1, es, rfl, hp, hs, hE1⟩
  refine ⟨trivial, ?_⟩
  refine sxo ?_
  refine l_call rfl rfl rfl rfl (encode_go w1 _ _ es hs (by rw [hp]; decide) 512 (by omega)) ?_
  rintro _ w2 ⟨a2, c2, bs, rfl, hE2, hO2, hbs⟩
  refine ⟨trivial, ?_⟩
  rw [hp, twoL_chk, if_pos rfl, twoL_enc] at hbs
  subst hbs
  rw [hp, twoL_chk]
  refine sxo ?_
  refine l_call rfl rfl rfl rfl (decode_go w2 _ _ twoB hO2.by 512 (by omega)) ?_
  rintro _ w3 ⟨a3, c3, fs, rfl, hE3, hO3, hfs⟩
  refine ⟨trivial, ?_⟩
  have hdc : decC 512 twoB = 0 := by simp [decC, twoB_dec, sizedL]
  have hdr : decR 512 twoB = twoL := by simp [decR, twoB_dec, sizedL]
  rw [hdc]
  rw [hdr] at hfs
  refine sxo ?_
  refine l_call rfl rfl rfl rfl (twoA_go w3) ?_
  rintro _ w4 ⟨b4, gs, rfl, hp4, hs4, hE4⟩
  refine ⟨trivial, ?_⟩
  have hs3 := hO3.en.ex hE4
  refine sxo ?_
  refine l_call rfl rfl rfl rfl (same_go w4 _ _ _ _ fs gs hs3 hs4) ?_
  rintro _ w5 ⟨rfl, hE5⟩
  refine ⟨trivial, ?_⟩
  rw [hfs, hp4]
  have hb2 := hO2.by
  have hb5 := (((hb2.ex hE3).ex hE4).ex hE5)
  refine sxo ?_
  exact q_ret1 rfl rfl ⟨by simp [twoB], (((hE1.trans hE2).trans hE3).trans hE4).trans hE5⟩

theorem names_go (w : World) : Fn Try.prog 3 #[] w (fun v w' => v = .bool true ∧ Ex w w') := by
  refine fn_enter Try.func3 rfl rfl rfl ?_
  refine sxo ?_
  refine l_call rfl rfl rfl rfl (shown_go w) ?_
  rintro _ w1 ⟨rfl, hE1⟩
  refine ⟨trivial, ?_⟩
  refine sxo ?_
  refine l_call rfl rfl rfl rfl (num_go w1 1) ?_; rintro _ wz ⟨rfl, hwz⟩; rw [hwz]; refine ⟨trivial, ?_⟩; (refine sxo ?_)
  refine l_call rfl rfl rfl rfl (num_go w1 51) ?_; rintro _ wz ⟨rfl, hwz⟩; rw [hwz]; refine ⟨trivial, ?_⟩; (refine sxo ?_)
  refine l_call rfl rfl rfl rfl (num_go w1 52) ?_; rintro _ wz ⟨rfl, hwz⟩; rw [hwz]; refine ⟨trivial, ?_⟩; (refine sxo ?_)
  refine l_call rfl rfl rfl rfl (num_go w1 53) ?_; rintro _ wz ⟨rfl, hwz⟩; rw [hwz]; refine ⟨trivial, ?_⟩; (refine sxo ?_)
  refine l_call rfl rfl rfl rfl (num_go w1 54) ?_; rintro _ wz ⟨rfl, hwz⟩; rw [hwz]; refine ⟨trivial, ?_⟩; (refine sxo ?_)
  refine l_call rfl rfl rfl rfl (num_go w1 55) ?_; rintro _ wz ⟨rfl, hwz⟩; rw [hwz]; refine ⟨trivial, ?_⟩; (refine sxo ?_)
  exact q_ret1 rfl rfl ⟨rfl, hE1⟩
end Go.Sx
