/- Part of a proof: walks through functions of the program, in the words of the calculus of the texts Sx. -/
import Derived.Test.YtbkaabjjmoaijaaCL3
namespace Go.Sx
open Go Go.Proofs
set_option maxRecDepth 10000

theorem rsized_go (w : World) (s : Int) : Fn Try.prog 53 #[.int .i64 s] w (fun v w' => v = .bool (sizedL s) ∧ w' = w) := by
  refine fn_enter Try.func53 rfl rfl rfl ?_
  refine sxo ?_
  refine l_if rfl (fun h1 => ?_) (fun h1 => ?_)
  · refine sxo ?_
    exact q_ret1 rfl rfl ⟨by simp [sizedL, h1], rfl⟩
  · refine sxo ?_
    refine l_if rfl (fun h2 => ?_) (fun h2 => ?_)
    · refine sxo ?_
      exact q_ret1 rfl rfl ⟨by simp [sizedL, h2], rfl⟩
    · refine sxo ?_
      refine l_if rfl (fun h3 => ?_) (fun h3 => ?_)
      · refine sxo ?_
        exact q_ret1 rfl rfl ⟨by simp [sizedL, h3], rfl⟩
      · refine sxo ?_
        exact q_ret1 rfl rfl ⟨by simp [sizedL, h1, h2, h3], rfl⟩

theorem rcommon_go (w : World) (a a' : Option Addr) (c c' : Nat) (xs ys : List UInt8) (ha : By w a c xs) (hb : By w a' c' ys) :
    Fn Try.prog 64 #[.slice a xs.length c, .slice a' ys.length c'] w (fun v w' => v = .int .i64 (common xs ys) ∧ Ex w w') := by
  have l1 := ha.len
  have l2 := hb.len
  refine fn_enter Try.func64 rfl rfl rfl ?_
  refine sxo ?_
  refine c_loop (fun k : Nat => [(0, .slice a xs.length c), (1, .slice a' ys.length c'), (5, .int .i64 k)])
    (fun k w1 => Ex w w1 ∧ k ≤ xs.length ∧ k ≤ ys.length ∧ ∀ i, i < k → xs.getD i 0 = ys.getD i 0) (fun k => xs.length - k) 0 (by exact ⟨rfl, rfl, rfl, trivial⟩) ⟨Ext.refl w, Nat.zero_le _, Nat.zero_le _, fun i hi => absurd hi (by omega)⟩ ?_
  rintro k w1 ⟨hE, hk1, hk2, hk⟩
  refine sxo ?_
  refine c_dr (fun _ => False) (.one true 0 (.one true 1 (.one true 2 (.one true 3 (.one true 4 (.one true 5 (.one true 6 (.one true 7 (.one true 8 (.one true 9 (.one true 10 (.one true 11 (.one true 12 (.one true 13 (.one true 14 (.one true 15 (.one true 16 (.one true 17 (.one true 18 (.one true 19 (.one true 20 .nil))))))))))))))))))))) mixed (by kernel_rfl) ?_
  intro w2 hE2 hh
  have ha1 := ha.ex hE
  have hb1 := hb.ex hE
  have hE' := hE.trans hE2
  refine sxo ?_
  refine l_if rfl (fun h1 => ?_) (fun h1 => ?_)
  · refine sxo ?_
    refine l_if rfl (fun h2 => ?_) (fun h2 => ?_)
    · obtain ⟨ad, rfl⟩ := ha.some (by omega)
      obtain ⟨ad', rfl⟩ := hb.some (by omega)
      refine sxo ?_
      refine c_if rfl (fun heq => ?_) (fun hne => ?_)
      · refine sxo ?_
        refine q_again (k + 1) ⟨rfl, rfl, rfl, trivial⟩ ⟨hE', by omega, by omega, fun i hi => ?_⟩ (by omega)
        rcases Nat.lt_or_eq_of_le (Nat.lt_succ_iff.1 hi) with h | rfl
        · exact hk i h
        · exact heq
      · refine sxo ?_
        refine q_ret1 rfl rfl ⟨?_, hE'⟩
        rw [common_eq xs ys k (by omega) (by omega) hk (.inr (.inr hne))]
    · refine sxo ?_
      refine q_ret1 rfl rfl ⟨?_, hE'⟩
      rw [common_eq xs ys k (by omega) (by omega) hk (.inr (.inl (by omega)))]
  · refine sxo ?_
    refine q_ret1 rfl rfl ⟨?_, hE'⟩
    rw [common_eq xs ys k (by omega) (by omega) hk (.inl (by omega))]

section
variable (w : World) (a : Option Addr) (c : Nat) (es : List KV) (hs : En w a c es) (hS : Small (es.map KV.p))

/-- What is wrong with the i-th entry. -/
def entL (size : Int) (ps : Ps) (i : Nat) : Int :=
  if (keyAt ps i).length < 1 ∨ size / 16 < (keyAt ps i).length then 51 else if size / 4 < (valAt ps i).length then 52 else if ordBad (prevO ps i) (keyAt ps i) = true then 53 else 0
theorem mayFrom_ent (size : Int) (ps : Ps) (i : Nat) (h : i < ps.length) :
    mayFrom size (prevO ps i) (ps.drop i) = if entL size ps i ≠ 0 then entL size ps i else mayFrom size (prevO ps (i + 1)) (ps.drop (i + 1)) := by
  obtain ⟨e, he⟩ := get_lt ps i h
  rw [List.drop_eq_getElem_cons h, (List.getElem?_eq_some_iff.1 he).2, mayFrom, entL, keyAt_get he, valAt_get he, prevO, keyAt_get he]
  split
  · simp
  · split
    · simp
    · split <;> simp

include hs
theorem rentry_go (size : Int) (h1 : 512 ≤ size) (h2 : size ≤ 4096) (i : Nat) (hi : i < es.length) : Fn Try.prog 75 #[.int .i64 size, .slice a es.length c, .int .i64 i] w
    (fun v w' => v = .int .i64 (entL size (es.map KV.p) i) ∧ Ex w w') := by
  have hl := hs.len
  obtain ⟨e, he⟩ := get_lt es i hi
  obtain ⟨ad, rfl⟩ := hs.some (by omega)
  have hk := (hs.at he).1
  have hkl := hk.len
  have hvl := (hs.at he).2.len
  have hka : keyAt (es.map KV.p) i = e.k := keyAt_get (map_get he)
  have hva : valAt (es.map KV.p) i = e.v := valAt_get (map_get he)
  refine fn_enter Try.func75 rfl rfl rfl ?_
  rw [entL, hka, hva]
  refine sxo ?_
  refine l_if rfl (fun t1 => ?_) (fun t1 => ?_)
  · refine sxo ?_
    exact q_ret1 rfl rfl ⟨by rw [if_pos (.inl (by omega))], Ext.refl w⟩
  · refine sxo ?_
    refine c_if rfl (fun t2 => ?_) (fun t2 => ?_)
    · refine sxo ?_
      exact q_ret1 rfl rfl ⟨by rw [if_pos (.inr (by omega))], Ext.refl w⟩
    · rw [if_neg (by omega)]
      refine sxo ?_
      refine c_if rfl (fun t3 => ?_) (fun t3 => ?_)
      · refine sxo ?_
        exact q_ret1 rfl rfl ⟨by rw [if_pos (by omega)], Ext.refl w⟩
      · rw [if_neg (by omega)]
        refine sxo ?_
        refine c_dr (fun _ => False) (.one true 0 (.one true 1 (.one true 2 (.one true 3 (.one true 4 (.one true 5 (.one true 6 (.one true 7 (.one true 8 (.one true 9 (.one true 10 (.one true 11 (.one true 12 (.one true 13 (.one true 14 (.one true 15 (.one true 16 (.one true 17 (.one true 18 .nil))))))))))))))))))) mixed (by kernel_rfl) ?_
        intro w4 hE4 hh
        refine sxo ?_
        refine l_if rfl (fun t4 => ?_) (fun t4 => ?_)
        · obtain ⟨j, rfl⟩ : ∃ j, i = j + 1 := ⟨i - 1, by omega⟩
          obtain ⟨p, hp⟩ := get_lt es j (by omega)
          have hkp := (hs.at hp).1
          rw [prevO, keyAt_get (map_get hp)]
          refine sxo ?_
          refine l_rw (t := 48) rfl (ci (by omega : _ = ((j : Nat) : Int))) ?_
          refine sxo ?_
          refine c_if rfl (fun t5 => ?_) (fun t5 => ?_)
          · refine sxo ?_
            exact q_ret1 rfl rfl ⟨by rw [if_pos (by simp only [ordBad, decide_eq_true_eq]; have := cmp_anti p.k e.k; omega)], hE4⟩
          · refine sxo ?_
            exact q_ret1 rfl rfl ⟨by rw [if_neg (by simp only [ordBad, decide_eq_true_eq]; have := cmp_anti p.k e.k; omega)], hE4⟩
        · obtain rfl : i = 0 := by omega
          refine sxo ?_
          exact q_ret1 rfl rfl ⟨by rw [if_neg (by simp [prevO, ordBad])], hE4⟩

theorem rentries_go (size : Int) (h1 : 512 ≤ size) (h2 : size ≤ 4096) : Fn Try.prog 63 #[.int .i64 size, .slice a es.length c] w
    (fun v w' => v = .int .i64 (mayL size (es.map KV.p)) ∧ Ex w w') := by
  have hl := hs.len
  refine fn_enter Try.func63 rfl rfl rfl ?_
  refine sxo ?_
  refine c_loop (fun k : Nat => [(0, .int .i64 size), (1, .slice a es.length c), (5, .int .i64 k)])
    (fun k w1 => Ex w w1 ∧ k ≤ es.length ∧ mayL size (es.map KV.p) = mayFrom size (prevO (es.map KV.p) k) ((es.map KV.p).drop k)) (fun k => es.length - k) 0 (by exact ⟨rfl, rfl, rfl, trivial⟩) ⟨Ext.refl w, Nat.zero_le _, rfl⟩ ?_
  rintro k w1 ⟨hE, hk, hm⟩
  refine sxo ?_
  refine c_if rfl (fun hlt => ?_) (fun hge => ?_)
  · rw [mayFrom_ent _ _ _ (by simp; omega)] at hm
    refine sxo ?_
    refine l_call rfl rfl rfl rfl (rentry_go w1 _ _ _ (hs.ex hE) size h1 h2 k (by omega)) ?_; rintro _ w2 ⟨rfl, hE2⟩; refine ⟨trivial, ?_⟩
    refine sxo ?_
    refine c_ifn rfl (fun t => ?_) (fun t => ?_)
    · refine sxo ?_
      exact q_ret1 rfl rfl ⟨by rw [hm, if_pos t], hE.trans hE2⟩
    · rw [if_neg (by simpa using t)] at hm
      refine sxo ?_
      exact q_again (k + 1) ⟨rfl, rfl, rfl, trivial⟩ ⟨hE.trans hE2, by omega, hm⟩ (by omega)
  · have : k = es.length := by omega
    subst this
    refine sxo ?_
    refine q_ret1 rfl rfl ⟨ci ?_, hE⟩
    rw [hm, List.drop_of_length_le (by simp)]
    rfl

include hS
theorem rbytes_go : Fn Try.prog 42 #[.slice a es.length c] w
    (fun v w' => v = .int .i64 (bytesL (es.map KV.p)) ∧ Ex w w') := by
  have hl := hs.len
  refine fn_enter Try.func42 rfl rfl rfl ?_
  refine sxo ?_
  refine c_loop (fun k : Nat => [(0, .slice a es.length c), (3, .int .i64 ((2 + sumB [] ((es.map KV.p).take k) : Nat) : Int)), (4, .int .i64 k)])
    (fun k w1 => Ex w w1 ∧ k ≤ es.length) (fun k => es.length - k) 0 (by exact ⟨rfl, rfl, rfl, trivial⟩) ⟨Ext.refl w, Nat.zero_le _⟩ ?_
  rintro k w1 ⟨hE, hk⟩
  have hbd := sumB_take_le (es.map KV.p) k
  refine sxo ?_
  refine c_if rfl (fun hlt => ?_) (fun hge => ?_)
  · have hst := sumB_take (ps := es.map KV.p) (i := k) (by simp; omega)
    obtain ⟨e, he⟩ := get_lt es k (by omega)
    have hw := wt_get (map_get he)
    simp only at hw
    have hcl := (common_le (prevK (es.map KV.p) k) e.k).2
    rw [longL, show keyAt (es.map KV.p) k = e.k from keyAt_get (map_get he), show valAt (es.map KV.p) k = e.v from valAt_get (map_get he)] at hst
    obtain ⟨ad, rfl⟩ := hs.some (by omega)
    have hs1 := hs.ex hE
    refine sxo ?_
    refine c_dr (fun _ => False) (.one true 0 (.one true 1 (.one true 2 (.one true 3 (.one true 4 (.one true 5 (.one true 6 (.one true 7 (.one true 8 (.one true 9 (.one true 10 (.one true 11 (.one true 12 (.one true 13 (.one true 14 (.one true 15 (.one true 16 .nil))))))))))))))))) mixed (by kernel_rfl) ?_
    intro w4 hE4 hh
    have hs4 := hs1.ex hE4
    have hE' := hE.trans hE4
    refine sxo ?_
    refine c_if rfl (fun t4 => ?_) (fun t4 => ?_)
    · obtain ⟨j, rfl⟩ : ∃ j, k = j + 1 := ⟨k - 1, by omega⟩
      obtain ⟨p, hp⟩ := get_lt es j (by omega)
      rw [prevK_get (map_get hp)] at hst hcl
      simp only at hst hcl
      refine sxo ?_
      refine c_dr (fun _ => False) (.one true 0 (.one true 1 (.one true 2 (.one true 3 (.one true 4 (.one true 5 (.one true 6 (.one true 7 (.one true 8 (.one true 9 (.one true 10 (.one true 11 (.one false 12 (.one true 13 (.one true 14 .nil))))))))))))))) mixed (by kernel_rfl) ?_
      intro w5 hE5 hh5
      refine sxo ?_
      refine l_rw (t := 32) rfl (ci (by omega : _ = ((j : Nat) : Int))) ?_
      refine sxo ?_
      refine l_call rfl rfl rfl rfl (rcommon_go w5 _ _ _ _ _ _ ((hs4.at hp).1.ex hE5) ((hs4.at he).1.ex hE5)) ?_
      rintro _ w6 ⟨rfl, hE6⟩
      refine ⟨(hE5.trans hE6), ?_⟩
      refine sxo ?_
      refine q_again (j + 1 + 1) ⟨rfl, ?_, rfl, trivial⟩ ⟨hE'.trans (hE5.trans hE6), by omega⟩ (by omega)
      show some _ = some _
      congr 2
      rw [hst]
      omega
    · obtain rfl : k = 0 := by omega
      have : common (prevK (es.map KV.p) 0) e.k = 0 := common_nil _
      refine sxo ?_
      refine q_again (0 + 1) ⟨rfl, ?_, rfl, trivial⟩ ⟨hE', by omega⟩ (by omega)
      show some _ = some _
      congr 2
      rw [hst]
      omega
  · have : k = es.length := by omega
    subst this
    refine sxo ?_
    refine q_ret1 rfl rfl ⟨ci ?_, hE⟩
    rw [bytesL, List.take_of_length_le (by simp)]

theorem rcheck_go (size : Int) (hz : -9223372036854775808 ≤ size ∧ size ≤ 9223372036854775807) : Fn Try.prog 41 #[.int .i64 size, .slice a es.length c] w
    (fun v w' => v = .int .i64 (chkL size (es.map KV.p)) ∧ Ex w w') := by
  refine fn_enter Try.func41 rfl rfl rfl ?_
  refine sxo ?_
  refine l_call rfl rfl rfl rfl (rsized_go w size) ?_; rintro _ w0 ⟨rfl, hE0⟩; refine ⟨trivial, ?_⟩
  subst hE0
  refine sxo ?_
  refine c_cond rfl (fun t1 => ?_) (fun t1 => ?_)
  · refine sxo ?_
    exact q_ret1 rfl rfl ⟨by rw [chkL, if_neg (by simpa using t1)], Ext.refl _⟩
  · have hsz : sizedL size = true := by simpa using t1
    have hb := sized_bd hsz
    refine sxo ?_
    refine l_call rfl rfl rfl rfl (rentries_go w0 a c es hs size hb.1 hb.2) ?_; rintro _ w1 ⟨rfl, hE1⟩; refine ⟨trivial, ?_⟩
    refine sxo ?_
    refine c_ifn rfl (fun t2 => ?_) (fun t2 => ?_)
    · refine sxo ?_
      exact q_ret1 rfl rfl ⟨by rw [chkL, if_pos hsz, if_pos t2], hE1⟩
    · refine sxo ?_
      refine l_call rfl rfl rfl rfl (rbytes_go w1 a c es (hs.ex hE1) hS) ?_; rintro _ w2 ⟨rfl, hE2⟩; refine ⟨trivial, ?_⟩
      refine sxo ?_
      refine c_if rfl (fun t3 => ?_) (fun t3 => ?_)
      · refine sxo ?_
        exact q_ret1 rfl rfl ⟨by rw [chkL, if_pos hsz, if_neg (by simpa using t2), if_pos t3], hE1.trans hE2⟩
      · refine sxo ?_
        exact q_ret1 rfl rfl ⟨by rw [chkL, if_pos hsz, if_neg (by simpa using t2), if_neg t3], hE1.trans hE2⟩
end
end Go.Sx
