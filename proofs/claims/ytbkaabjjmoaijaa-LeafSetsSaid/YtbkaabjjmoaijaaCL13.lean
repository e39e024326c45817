/- Part of a proof: walks through functions of the program, in the words of the calculus of the texts Sx. -/
import Derived.Test.YtbkaabjjmoaijaaCL4
import Derived.Test.YtbkaabjjmoaijaaCL9
namespace Go.Sx
open Go Go.Proofs
set_option maxRecDepth 10000

set_option maxHeartbeats 4000000 in
theorem rencode_go (w : World) (a : Option Addr) (c : Nat) (es : List KV) (hs : En w a c es) (hS : Small (es.map KV.p)) (size : Int) (hz : -9223372036854775808 ≤ size ∧ size ≤ 9223372036854775807) :
    Fn Try.prog 40 #[.int .i64 size, .slice a es.length c] w (EncPost w size (es.map KV.p)) := by
  have hl := hs.len
  have hwl := wt_len (es.map KV.p)
  simp only [List.length_map] at hwl
  refine fn_enter Try.func40 rfl rfl rfl ?_
  refine sxo ?_
  refine l_call rfl rfl rfl rfl (rcheck_go w a c es hs hS size hz) ?_; rintro _ w1 ⟨rfl, hE1⟩; refine ⟨trivial, ?_⟩
  refine sxo ?_
  refine c_ifn rfl (fun t1 => ?_) (fun t1 => ?_)
  · refine sxo ?_
    exact q_ret2 rfl rfl rfl ⟨none, 0, [], rfl, hE1, Own.nil .., by rw [if_neg t1]⟩
  · have hs1 := hs.ex hE1
    have hS1 := hE1.size
    have hbl := sumB_le [] (es.map KV.p)
    have hO1 : OwB w1 w.heap.size 5 none 0 [] := Own.nil ..
    refine sxo ?_
    refine l_call rfl rfl rfl rfl (twoR_go w1 w.heap.size (by omega) _ _ [] hO1 (by simp) es.length) ?_; rintro _ w4 ⟨a4, c4, rfl, ⟨hO4, hG4⟩⟩; refine ⟨trivial, ?_⟩
    have hE4 : Ex w w4 := hG4.ex0 hE1 hO1 (Nat.le_refl _)
    refine sxo ?_
    refine c_loop (fun x : Nat × Option Addr × Nat => [(0, .int .i64 size), (1, .slice a es.length c), (8, .int .i64 x.1), (7, .slice x.2.1 (two8 es.length ++ encL [] ((es.map KV.p).take x.1)).length x.2.2)])
      (fun x w' => Ex w w' ∧ x.1 ≤ es.length ∧ OwB w' w.heap.size 5 x.2.1 x.2.2 (two8 es.length ++ encL [] ((es.map KV.p).take x.1))) (fun x => es.length - x.1) (0, a4, c4) (by exact ⟨rfl, rfl, rfl, rfl, trivial⟩) ⟨hE4, Nat.zero_le _, hO4⟩ ?_
    rintro ⟨k, a5, c5⟩ w5 ⟨hE5, hk, hO5⟩
    simp only at hk hO5 ⊢
    have hS5 := hE5.size
    refine sxo ?_
    refine c_if rfl (fun hlt => ?_) (fun hge => ?_)
    · obtain ⟨e, he⟩ := get_lt es k (by omega)
      obtain ⟨ad0, rfl⟩ := hs.some (by omega)
      have hs5 := hs.ex hE5
      have hw := wt_get (map_get he)
      simp only at hw
      have hka : keyAt (es.map KV.p) k = e.k := keyAt_get (map_get he)
      have hcl := (common_le (prevK (es.map KV.p) k) e.k).2
      have hel := encL_take_le (es.map KV.p) k
      refine sxo ?_
      refine c_cut (ι := Unit) (fun _ => [(0, .int .i64 size), (1, .slice (some ad0) es.length c), (8, .int .i64 k), (7, .slice a5 (two8 es.length ++ encL [] ((es.map KV.p).take k)).length c5), (9, .int .i64 (common (prevK (es.map KV.p) k) e.k : Nat))])
        (fun _ w' => Ex w5 w') ?_ ?_
      · refine c_if rfl (fun h0 => ?_) (fun h0 => ?_)
        · obtain ⟨j, rfl⟩ : ∃ j, k = j + 1 := ⟨k - 1, by omega⟩
          obtain ⟨e', he'⟩ := get_lt es j (by omega)
          have hpk : prevK (es.map KV.p) (j + 1) = e'.k := prevK_get (map_get he')
          refine sxo ?_
          refine c_dr (fun _ => False) (.one true 0 (.one true 1 (.one true 2 (.one true 3 (.one true 4 (.one true 5 (.one true 6 (.one true 7 (.one true 8 (.one true 9 (.one true 10 (.one false 11 (.one true 12 .nil))))))))))))) mixed (by kernel_rfl) ?_
          intro w6 hE6 hh
          have hs6 := hs5.ex hE6
          refine sxo ?_
          refine l_rw (t := 29) rfl (ci (by omega : _ = ((j : Nat) : Int))) ?_
          refine sxo ?_
          refine l_call rfl rfl rfl rfl (rcommon_go w6 _ _ _ _ _ _ (hs6.at he').1 (hs6.at he).1) ?_
          rintro _ w7 ⟨rfl, hE7⟩
          refine ⟨hE6.trans hE7, ?_⟩
          refine sxo ?_
          refine q_mid () ⟨rfl, rfl, rfl, rfl, ?_, trivial⟩ (hE6.trans hE7)
          rw [hpk]; rfl
        · obtain rfl : k = 0 := by omega
          refine sxo ?_
          exact q_mid () ⟨rfl, rfl, rfl, rfl, rfl, trivial⟩ (Ext.refl _)
      · rintro _ w8 hE58
        refine CJ.out ?_
        have hE8 := hE5.trans hE58
        have hO8 := hO5.ex hE58
        have hs8 := hs.ex hE8
        have h2l : (two8 es.length).length = 2 := rfl
        refine sxo ?_
        refine l_call rfl rfl rfl rfl (twoR_go w8 w.heap.size hE8.size a5 c5 _ hO8 (by simp only [List.length_append]; omega) (common (prevK (es.map KV.p) k) e.k)) ?_; rintro _ w10 ⟨a10, c10, rfl, ⟨hO10, hG10⟩⟩; refine ⟨trivial, ?_⟩
        have hE10 : Ex w w10 := hG10.ex0 hE8 hO8 (Nat.le_refl _)
        have hs10 := hs.ex hE10
        refine sxo ?_
        refine l_rw (t := 50) rfl (ci (by omega : _ = ((e.k.length - common (prevK (es.map KV.p) k) e.k : Nat) : Int))) ?_
        refine sxo ?_
        refine l_call rfl rfl rfl rfl (twoR_go w10 w.heap.size hE10.size a10 c10 _ hO10 (by simp only [List.length_append]; simp only [two8, List.length_cons, List.length_nil]; omega) (e.k.length - common (prevK (es.map KV.p) k) e.k)) ?_; rintro _ w11 ⟨a11, c11, rfl, ⟨hO11, hG11⟩⟩; refine ⟨trivial, ?_⟩
        have hE11 : Ex w w11 := hG11.ex0 hE10 hO10 (Nat.le_refl _)
        have hs11 := hs.ex hE11
        refine sxo ?_
        refine l_call rfl rfl rfl rfl (twoR_go w11 w.heap.size hE11.size a11 c11 _ hO11 (by simp only [List.length_append]; simp only [two8, List.length_cons, List.length_nil]; omega) e.v.length) ?_; rintro _ w12 ⟨a12, c12, rfl, ⟨hO12, hG12⟩⟩; refine ⟨trivial, ?_⟩
        have hE12 : Ex w w12 := hG12.ex0 hE11 hO11 (Nat.le_refl _)
        have hs12 := hs.ex hE12
        have hkle := (hs12.at he).1.le
        have hlen12 : ((two8 es.length ++ encL [] ((es.map KV.p).take k)) ++ two8 (common (prevK (es.map KV.p) k) e.k) ++ two8 (e.k.length - common (prevK (es.map KV.p) k) e.k) ++ two8 e.v.length).length = 8 + (encL [] ((es.map KV.p).take k)).length := by
          simp only [List.length_append, two8, List.length_cons, List.length_nil]; omega
        refine sxo ?_
        refine l_appB rfl rfl rfl rfl rfl rfl hO12 ((hs12.at he).1.drop hcl).src ?_ (by simp) (by rw [hlen12]; simp; omega) (by have := hE12.size; omega) ?_
        · intro h
          have := ((hs12.at he).1.drop hcl).nil h
          exact this
        intro a14 c14 w14 hO14 hG14
        refine ⟨trivial, ?_⟩
        have hE14 : Ex w w14 := hG14.ex0 hE12 hO12 (Nat.le_refl _)
        have hs14 := hs.ex hE14
        refine sxo ?_
        refine l_appB rfl rfl rfl rfl rfl rfl hO14 (hs14.at he).2.src (hs14.at he).2.nil rfl (by rw [List.length_append, hlen12]; simp; omega) (by have := hE14.size; omega) ?_
        intro a15 c15 w15 hO15 hG15
        refine ⟨trivial, ?_⟩
        have hE15 : Ex w w15 := hG15.ex0 hE14 hO14 (Nat.le_refl _)
        refine sxo ?_
        have hfin : (two8 es.length ++ encL [] ((es.map KV.p).take k)) ++ two8 (common (prevK (es.map KV.p) k) e.k) ++ two8 (e.k.length - common (prevK (es.map KV.p) k) e.k) ++ two8 e.v.length ++ e.k.drop (common (prevK (es.map KV.p) k) e.k) ++ e.v =
            two8 es.length ++ encL [] ((es.map KV.p).take (k + 1)) := by
          rw [encL_take (map_get he)]; simp only [encE, List.append_assoc]
        rw [hfin] at hO15 ⊢
        refine q_again (k + 1, a15, c15) ⟨rfl, rfl, rfl, rfl, trivial⟩ ⟨hE15, by simp only; omega, hO15⟩ (by simp only; omega)
    · have hke : k = es.length := by omega
      subst hke
      have hfin : encL [] ((es.map KV.p).take es.length) = encL [] (es.map KV.p) := by rw [List.take_of_length_le (by simp)]
      rw [hfin] at hO5 ⊢
      refine sxo ?_
      refine q_ret2 rfl rfl rfl ⟨a5, c5, _, ?_, hE5, hO5, ?_⟩
      · rw [t1]
      · rw [if_pos t1, encodeL]; simp
end Go.Sx
