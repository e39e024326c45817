/- Part of a proof: walks through functions of the program, in the words of the calculus of the texts Sx. -/
import Derived.Test.YtbkaabjjmoaijaaCL1
namespace Go.Sx
open Go Go.Proofs
set_option maxRecDepth 10000

/-! ### Plain: the bytes of entries -/
abbrev Ps := List (Bs × Bs)
def wt : Ps → Nat
  | [] => 0
  | e :: r => 1 + e.1.length + e.2.length + wt r
theorem wt_get : ∀ {ps : Ps} {i : Nat} {e : Bs × Bs}, ps[i]? = some e → 1 + e.1.length + e.2.length ≤ wt ps
  | [], i, e, h => by simp at h
  | x :: r, 0, e, h => by simp at h; subst h; simp only [wt]; omega
  | x :: r, i + 1, e, h => by have := wt_get (ps := r) (by simpa using h); simp only [wt]; omega
theorem wt_len : ∀ (ps : Ps), ps.length ≤ wt ps
  | [] => Nat.zero_le _
  | x :: r => by have := wt_len r; simp only [wt, List.length_cons]; omega
def sumB : Bs → Ps → Nat
  | _, [] => 0
  | p, e :: r => (6 + e.1.length - common p e.1 + e.2.length) + sumB e.1 r
def bytesL (ps : Ps) : Nat := 2 + sumB [] ps
theorem sumB_le : ∀ (p : Bs) (ps : Ps), sumB p ps ≤ 6 * wt ps
  | _, [] => Nat.le_refl _
  | p, e :: r => by have := sumB_le e.1 r; simp only [sumB, wt]; omega
/-- The key ahead of the i-th. -/
def prevK (ps : Ps) : Nat → Bs
  | 0 => []
  | i + 1 => (ps.getD i ([], [])).1
def keyAt (ps : Ps) (i : Nat) : Bs := (ps.getD i ([], [])).1
def valAt (ps : Ps) (i : Nat) : Bs := (ps.getD i ([], [])).2
theorem keyAt_get {ps : Ps} {i : Nat} {e : Bs × Bs} (h : ps[i]? = some e) : keyAt ps i = e.1 := by simp [keyAt, List.getD, h]
theorem valAt_get {ps : Ps} {i : Nat} {e : Bs × Bs} (h : ps[i]? = some e) : valAt ps i = e.2 := by simp [valAt, List.getD, h]
theorem prevK_get {ps : Ps} {i : Nat} {e : Bs × Bs} (h : ps[i]? = some e) : prevK ps (i + 1) = e.1 := by simp [prevK, List.getD, h]
def longL (ps : Ps) (i : Nat) : Nat := 6 + (keyAt ps i).length - common (prevK ps i) (keyAt ps i) + (valAt ps i).length
def lastK : Bs → Ps → Bs
  | p, [] => p
  | _, e :: r => lastK e.1 r
theorem sumB_snoc : ∀ (p : Bs) (l : Ps) (e : Bs × Bs), sumB p (l ++ [e]) = sumB p l + (6 + e.1.length - common (lastK p l) e.1 + e.2.length)
  | p, [], e => by simp [sumB, lastK]
  | p, x :: r, e => by simp only [List.cons_append, sumB, lastK, sumB_snoc x.1 r e]; omega
theorem take_snoc' {α : Type} {l : List α} {i : Nat} {e : α} (h : l[i]? = some e) : l.take (i + 1) = l.take i ++ [e] := by
  rw [List.take_succ_eq_append_getElem (get_lt' h)]
  have := (List.getElem?_eq_some_iff.1 h).2
  rw [this]
theorem lastK_snoc : ∀ (p : Bs) (l : Ps) (e : Bs × Bs), lastK p (l ++ [e]) = e.1
  | p, [], e => rfl
  | p, x :: r, e => by simp only [List.cons_append, lastK, lastK_snoc x.1 r e]
theorem lastK_take (ps : Ps) : ∀ (i : Nat), i ≤ ps.length → lastK [] (ps.take i) = prevK ps i
  | 0, _ => rfl
  | i + 1, h => by
    obtain ⟨e, he⟩ := get_lt ps i (by omega)
    rw [take_snoc' he, lastK_snoc, prevK_get he]
theorem sumB_take {ps : Ps} {i : Nat} (h : i < ps.length) : sumB [] (ps.take (i + 1)) = sumB [] (ps.take i) + longL ps i := by
  obtain ⟨e, he⟩ := get_lt ps i h
  rw [take_snoc' he, sumB_snoc, lastK_take ps i (by omega), longL, keyAt_get he, valAt_get he]
theorem sumB_take_le (ps : Ps) (i : Nat) : sumB [] (ps.take i) ≤ 6 * wt ps := by
  have h1 := sumB_le [] (ps.take i)
  have h2 : ∀ (l : Ps) (i : Nat), wt (l.take i) ≤ wt l := by
    intro l
    induction l with
    | nil => simp
    | cons x r ih => intro i; cases i with
      | zero => simp [wt]
      | succ i => have := ih i; simp only [List.take_succ_cons, wt]; omega
  have := h2 ps i
  omega
/-- What may be handed in: not more than some 2^40 bytes. -/
abbrev Small (ps : Ps) : Prop := wt ps ≤ 1099511627776
def ordBad : Option Bs → Bs → Bool
  | none, _ => false
  | some p, k => decide (0 ≤ cmp p k)
def mayFrom (size : Int) : Option Bs → Ps → Int
  | _, [] => 0
  | p, e :: r => if e.1.length < 1 ∨ size / 16 < e.1.length then 51 else if size / 4 < e.2.length then 52
    else if ordBad p e.1 = true then 53 else mayFrom size (some e.1) r
def prevO (ps : Ps) : Nat → Option Bs
  | 0 => none
  | i + 1 => some (keyAt ps i)
def mayL (size : Int) (ps : Ps) : Int := mayFrom size none ps
def chkL (size : Int) (ps : Ps) : Int := if sizedL size = true then (if mayL size ps ≠ 0 then mayL size ps else if size - 32 < bytesL ps then 54 else 0) else 1
theorem sized_bd {s : Int} (h : sizedL s = true) : 512 ≤ s ∧ s ≤ 4096 := by
  simp only [sizedL, Bool.or_eq_true, decide_eq_true_eq] at h; omega

/-! ### Walks -/
section
variable (w : World) (a : Option Addr) (c : Nat) (es : List KV) (hs : En w a c es) (hS : Small (es.map KV.p))
theorem map_get {es : List KV} {i : Nat} {e : KV} (h : es[i]? = some e) : (es.map KV.p)[i]? = some (e.k, e.v) := by simp [h, KV.p]

include hs
theorem alike_go (i : Nat) (hi : i < es.length) : Fn Try.prog 56 #[.slice a es.length c, .int .i64 i] w
    (fun v w' => v = .int .i64 (common (prevK (es.map KV.p) i) (keyAt (es.map KV.p) i)) ∧ Ex w w') := by
  have hl := hs.len
  refine fn_enter Try.func56 rfl rfl rfl ?_
  refine sxo ?_
  refine c_if rfl (fun h0 => ?_) (fun h0 => ?_)
  · have : i = 0 := by omega
    subst this
    refine sxo ?_
    exact q_ret1 rfl rfl ⟨by simp [prevK, common_nil], Ext.refl w⟩
  · obtain ⟨j, rfl⟩ : ∃ j, i = j + 1 := ⟨i - 1, by omega⟩
    obtain ⟨e, he⟩ := get_lt es (j + 1) hi
    obtain ⟨p, hp⟩ := get_lt es j (by omega)
    obtain ⟨ad, rfl⟩ := hs.some (by omega)
    have hk := (hs.at he).1
    have hkp := (hs.at hp).1
    refine sxo ?_
    refine c_dr (fun _ => False) (.one true 0 (.one true 1 (.one true 2 (.one true 3 (.one true 4 (.one true 5 (.one true 6 (.one true 7 (.one true 8 (.one true 9 (.one true 10 (.one false 11 (.one true 12 .nil))))))))))))) mixed (by kernel_rfl) ?_
    intro w1 hE1 hh
    refine sxo ?_
    refine l_rw (t := 9) rfl (ci (by omega : _ = ((j : Nat) : Int))) ?_
    refine sxo ?_
    refine l_call rfl rfl rfl rfl (common_go w1 _ _ _ _ _ _ (hkp.ex hE1) (hk.ex hE1)) ?_
    rintro _ w2 ⟨rfl, hE2⟩
    refine ⟨(hE1.trans hE2), ?_⟩
    refine sxo ?_
    exact q_ret1 rfl rfl ⟨by rw [prevK_get (map_get hp), keyAt_get (map_get he)], hE1.trans hE2⟩

include hS
theorem long_go (i : Nat) (hi : i < es.length) : Fn Try.prog 62 #[.slice a es.length c, .int .i64 i] w
    (fun v w' => v = .int .i64 (longL (es.map KV.p) i) ∧ Ex w w') := by
  have hl := hs.len
  obtain ⟨e, he⟩ := get_lt es i hi
  have hw := wt_get (map_get he)
  have hcl := common_le (prevK (es.map KV.p) i) (keyAt (es.map KV.p) i)
  have hka : keyAt (es.map KV.p) i = e.k := keyAt_get (map_get he)
  have hva : valAt (es.map KV.p) i = e.v := valAt_get (map_get he)
  rw [hka] at hcl
  simp only at hw hcl
  obtain ⟨ad, rfl⟩ := hs.some (by omega)
  refine fn_enter Try.func62 rfl rfl rfl ?_
  refine sxo ?_
  refine c_dr (fun _ => False) (.one true 0 (.one true 1 (.one true 2 (.one true 3 (.one true 4 (.one true 5 (.one true 6 (.one true 7 (.one true 8 (.one true 11 (.one true 12 (.one true 13 (.one true 14 (.one true 15 (.one true 16 (.one false 9 (.one true 10 (.one true 17 (.one true 18 .nil))))))))))))))))))) mixed (by kernel_rfl) ?_
  intro w1 hE1 hh
  refine sxo ?_
  refine l_call rfl rfl rfl rfl (alike_go w1 _ _ _ (hs.ex hE1) i hi) ?_
  rintro _ w2 ⟨rfl, hE2⟩
  refine ⟨(hE1.trans hE2), ?_⟩
  rw [hka]
  refine sxo ?_
  exact q_ret1 rfl rfl ⟨ci (by rw [longL, hka, hva]; omega), hE1.trans hE2⟩

theorem bytes_go : Fn Try.prog 38 #[.slice a es.length c] w
    (fun v w' => v = .int .i64 (bytesL (es.map KV.p)) ∧ Ex w w') := by
  have hl := hs.len
  refine fn_enter Try.func38 rfl rfl rfl ?_
  refine sxo ?_
  refine c_loop (fun k : Nat => [(0, .slice a es.length c), (6, .int .i64 es.length), (3, .int .i64 ((2 + sumB [] ((es.map KV.p).take k) : Nat) : Int)), (7, .int .i64 k)])
    (fun k w1 => Ex w w1 ∧ k ≤ es.length) (fun k => es.length - k) 0 (by exact ⟨rfl, rfl, rfl, rfl, trivial⟩) ⟨Ext.refl w, Nat.zero_le _⟩ ?_
  rintro k w1 ⟨hE, hk⟩
  have hbd := sumB_take_le (es.map KV.p) k
  refine sxo ?_
  refine c_if rfl (fun hlt => ?_) (fun hge => ?_)
  · have hbd' := sumB_take_le (es.map KV.p) (k + 1)
    rw [sumB_take (by simp; omega)] at hbd'
    refine sxo ?_
    refine l_call rfl rfl rfl rfl (long_go w1 _ _ _ (hs.ex hE) hS k (by omega)) ?_
    rintro _ w2 ⟨rfl, hE2⟩
    refine ⟨trivial, ?_⟩
    refine sxo ?_
    refine q_again (k + 1) ⟨rfl, rfl, ?_, rfl, trivial⟩ ⟨hE.trans hE2, by omega⟩ (by omega)
    show some _ = some _
    congr 2
    rw [sumB_take (by simp; omega)]
    omega
  · have : k = es.length := by omega
    subst this
    refine sxo ?_
    refine q_ret1 rfl rfl ⟨ci ?_, hE⟩
    rw [bytesL, List.take_of_length_le (by simp)]

omit hS in
theorem may_go (size : Int) (h1 : 512 ≤ size) (h2 : size ≤ 4096) : Fn Try.prog 61 #[.int .i64 size, .slice a es.length c] w
    (fun v w' => v = .int .i64 (mayL size (es.map KV.p)) ∧ Ex w w') := by
  have hl := hs.len
  refine fn_enter Try.func61 rfl rfl rfl ?_
  refine sxo ?_
  refine c_loop (fun k : Nat => [(0, .int .i64 size), (1, .slice a es.length c), (7, .slice a es.length c), (8, .int .i64 es.length), (9, .int .i64 k)])
    (fun k w1 => Ex w w1 ∧ k ≤ es.length ∧ mayL size (es.map KV.p) = mayFrom size (prevO (es.map KV.p) k) ((es.map KV.p).drop k)) (fun k => es.length - k) 0 (by exact ⟨rfl, rfl, rfl, rfl, rfl, trivial⟩) ⟨Ext.refl w, Nat.zero_le _, rfl⟩ ?_
  rintro k w1 ⟨hE, hk, hm⟩
  refine sxo ?_
  refine c_if rfl (fun hlt => ?_) (fun hge => ?_)
  · obtain ⟨e, he⟩ := get_lt es k (by omega)
    obtain ⟨ad, rfl⟩ := hs.some (by omega)
    have hs1 := hs.ex hE
    have hw := wt_get (map_get he)
    simp only at hw
    have hd : (es.map KV.p).drop k = (e.k, e.v) :: (es.map KV.p).drop (k + 1) := by
      have := map_get he
      rw [List.drop_eq_getElem_cons (get_lt' this), (List.getElem?_eq_some_iff.1 this).2]
    rw [hd, mayFrom] at hm
    refine sxo ?_
    refine l_alloc rfl rfl rfl ?_
    intro b w2 hN
    refine ⟨trivial, ?_⟩
    have hB : HB w2 b 47 [.slice none 0 0, .slice none 0 0] := hN.hb
    refine sxo ?_
    refine l_storeA (o := 0) rfl rfl rfl rfl hB (Nat.le_refl _) rfl rfl ?_
    intro w3 hB3' hE3 hz3
    refine ⟨trivial, ?_⟩
    have hB3 : HB w3 b 47 e.cells := hB3'
    have hE13 : Ex w1 w3 := (hN.ex).fresh hE3 (by intro i hi h; subst h; have := hN.at_; omega)
    clear hB3' hB
    have hs3 := hs1.ex hE13
    have hk3 := (hs3.at he).1
    have hk := hk3.len
    have hv := (hs3.at he).2.len
    simp only at hm
    refine sxo ?_
    refine l_if rfl (fun t1 => ?_) (fun t1 => ?_)
    · refine sxo ?_
      exact q_ret1 rfl rfl ⟨by rw [hm, if_pos (.inl (by omega))], hE.trans hE13⟩
    · refine sxo ?_
      refine c_if rfl (fun t2 => ?_) (fun t2 => ?_)
      · refine sxo ?_
        exact q_ret1 rfl rfl ⟨by rw [hm, if_pos (.inr (by omega))], hE.trans hE13⟩
      · rw [if_neg (by omega)] at hm
        refine sxo ?_
        refine c_if rfl (fun t3 => ?_) (fun t3 => ?_)
        · refine sxo ?_
          exact q_ret1 rfl rfl ⟨by rw [hm, if_pos (by omega)], hE.trans hE13⟩
        · rw [if_neg (by omega)] at hm
          refine sxo ?_
          refine c_dr (fun _ => False) (.one true 0 (.one true 1 (.one true 2 (.one true 3 (.one true 4 (.one true 5 (.one true 6 (.one true 7 (.one true 8 (.one true 9 (.one true 10 (.one false 11 (.one true 12 (.one true 13 (.one true 14 .nil))))))))))))))) mixed (by kernel_rfl) ?_
          intro w4 hE4 hh
          have hE14 := hE13.trans hE4
          refine sxo ?_
          refine l_if rfl (fun t4 => ?_) (fun t4 => ?_)
          · obtain ⟨j, rfl⟩ : ∃ j, k = j + 1 := ⟨k - 1, by omega⟩
            obtain ⟨p, hp⟩ := get_lt es j (by omega)
            rw [prevO, keyAt_get (map_get hp)] at hm
            refine sxo ?_
            refine l_rw (t := 40) rfl (ci (by omega : _ = ((j : Nat) : Int))) ?_
            refine sxo ?_
            refine l_call rfl rfl rfl rfl (compare_go w4 _ _ _ _ _ _ ((hs3.at hp).1.ex hE4) (hk3.ex hE4)) ?_
            rintro _ w5 ⟨rfl, hE5⟩
            refine ⟨(hE4.trans hE5), ?_⟩
            refine sxo ?_
            refine c_if rfl (fun t5 => ?_) (fun t5 => ?_)
            · refine sxo ?_
              exact q_ret1 rfl rfl ⟨by rw [hm, if_pos (by simpa [ordBad] using t5)], hE.trans (hE14.trans hE5)⟩
            · rw [if_neg (by simpa [ordBad] using t5)] at hm
              refine sxo ?_
              refine q_again (j + 1 + 1) ⟨rfl, rfl, rfl, rfl, rfl, trivial⟩ ⟨hE.trans (hE14.trans hE5), by omega, ?_⟩ (by omega)
              rw [hm, prevO, keyAt_get (map_get he)]
          · obtain rfl : k = 0 := by omega
            refine sxo ?_
            refine q_again (0 + 1) ⟨rfl, rfl, rfl, rfl, rfl, trivial⟩ ⟨hE.trans hE14, by omega, ?_⟩ (by omega)
            rw [hm, if_neg (by simp [prevO, ordBad]), prevO, keyAt_get (map_get he)]
  · have : k = es.length := by omega
    subst this
    refine sxo ?_
    refine q_ret1 rfl rfl ⟨ci ?_, hE⟩
    rw [hm, List.drop_of_length_le (by simp)]
    rfl

theorem check_go (size : Int) (hz : -9223372036854775808 ≤ size ∧ size ≤ 9223372036854775807) : Fn Try.prog 37 #[.int .i64 size, .slice a es.length c] w
    (fun v w' => v = .int .i64 (chkL size (es.map KV.p)) ∧ Ex w w') := by
  refine fn_enter Try.func37 rfl rfl rfl ?_
  refine sxo ?_
  refine l_call rfl rfl rfl rfl (sized_go w size) ?_; rintro _ w0 ⟨rfl, hE0⟩; refine ⟨trivial, ?_⟩
  subst hE0
  refine sxo ?_
  refine c_cond rfl (fun t1 => ?_) (fun t1 => ?_)
  · refine sxo ?_
    exact q_ret1 rfl rfl ⟨by rw [chkL, if_neg (by simpa using t1)], Ext.refl _⟩
  · have hsz : sizedL size = true := by simpa using t1
    have hb := sized_bd hsz
    refine sxo ?_
    refine l_call rfl rfl rfl rfl (may_go w0 a c es hs size hb.1 hb.2) ?_; rintro _ w1 ⟨rfl, hE1⟩; refine ⟨trivial, ?_⟩
    refine sxo ?_
    refine c_ifn rfl (fun t2 => ?_) (fun t2 => ?_)
    · refine sxo ?_
      exact q_ret1 rfl rfl ⟨by rw [chkL, if_pos hsz, if_pos t2], hE1⟩
    · refine sxo ?_
      refine l_call rfl rfl rfl rfl (bytes_go w1 a c es (hs.ex hE1) hS) ?_; rintro _ w2 ⟨rfl, hE2⟩; refine ⟨trivial, ?_⟩
      refine sxo ?_
      refine c_if rfl (fun t3 => ?_) (fun t3 => ?_)
      · refine sxo ?_
        exact q_ret1 rfl rfl ⟨by rw [chkL, if_pos hsz, if_neg (by simpa using t2), if_pos t3], hE1.trans hE2⟩
      · refine sxo ?_
        exact q_ret1 rfl rfl ⟨by rw [chkL, if_pos hsz, if_neg (by simpa using t2), if_neg t3], hE1.trans hE2⟩
end
end Go.Sx
