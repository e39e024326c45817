/- Part of a proof: Split, by the program and by the document; entries that are lent. -/
import Derived.Test.YtbkaabjjmoaijaaCM1
namespace Go.Sx
open Go Go.Proofs
set_option maxRecDepth 10000
variable {w0 : World} {H : List Ck}

/-- The best of the places 1 to n. -/
def spl (f : Nat → Int) : Nat → Int × Int
  | 0 => (0, 0)
  | n + 1 => if (spl f n).1 = 0 ∨ f (n + 1) < (spl f n).2 then (((n + 1 : Nat) : Int), f (n + 1)) else spl f n
theorem spl_bd (f : Nat → Int) : ∀ n, 0 ≤ (spl f n).1 ∧ (spl f n).1 ≤ n
  | 0 => by simp [spl]
  | n + 1 => by
    have := spl_bd f n
    unfold spl
    split
    · simp only; omega
    · omega
/-- Where the first i entries stay: the longer leaf's bytes. -/
def lgr (ps : Ps) (i : Nat) : Int := max ((2 + sumB [] (ps.take i) : Nat) : Int) ((bytesL ps : Int) - ((2 + sumB [] (ps.take i) : Nat) : Int) + 2 + (common (prevK ps i) (keyAt ps i) : Nat))
def splN (size : Int) (ps : Ps) : Int := if sizedL size = false ∨ ps.length < 2 then 0 else if mayL size ps ≠ 0 then 0 else if size - 32 < (spl (lgr ps) (ps.length - 1)).2 then 0 else (spl (lgr ps) (ps.length - 1)).1
def splE (size : Int) (ps : Ps) : Int := if sizedL size = false ∨ ps.length < 2 then 1 else if mayL size ps ≠ 0 then mayL size ps else if size - 32 < (spl (lgr ps) (ps.length - 1)).2 then 54 else 0
theorem bytes_le {ps : Ps} : bytesL ps ≤ 2 + 6 * wt ps := by have := sumB_le [] ps; simp only [bytesL]; omega
theorem common_wt {ps : Ps} {i : Nat} {e : Bs × Bs} (he : ps[i]? = some e) : common (prevK ps i) (keyAt ps i) ≤ wt ps := by
  have h1 := common_le (prevK ps i) (keyAt ps i)
  have h2 := wt_get he
  rw [keyAt_get he] at h1 ⊢
  omega
theorem lgr_bd {ps : Ps} {i : Nat} {e : Bs × Bs} (he : ps[i]? = some e) : 0 ≤ lgr ps i ∧ lgr ps i ≤ 4 + 13 * wt ps := by
  have h1 := sumB_take_le ps i
  have h2 := bytes_le (ps := ps)
  have h3 := common_wt he
  simp only [lgr]
  omega
theorem spl_bd2 {ps : Ps} : ∀ n, n < ps.length → 0 ≤ (spl (lgr ps) n).2 ∧ (spl (lgr ps) n).2 ≤ 4 + 13 * wt ps
  | 0, _ => by simp [spl]; omega
  | n + 1, h => by
    obtain ⟨e, he⟩ := get_lt ps (n + 1) h
    have h1 := lgr_bd he
    have h2 := spl_bd2 (ps := ps) n (by omega)
    unfold spl
    split
    · exact h1
    · exact h2

theorem lsplit_s {a : Option Addr} {c : Nat} {es : List KV} (he : REn w0 H a c es) (hS : Small (es.map KV.p)) {size : Int} (hz : I64 size) :
    FnV Try.prog w0 H 30 #[.int .i64 size, .slice a es.length c] (.tuple #[.int .i64 (splN size (es.map KV.p)), .int .i64 (splE size (es.map KV.p))]) := by
  refine fns_enter Try.func30 rfl rfl rfl ?_
  have hwl := wt_len (es.map KV.p)
  simp only [List.length_map, Small] at hwl hS
  refine sx ?_
  refine s_callV rfl lsized_s ?_
  refine sx ?_
  have hL : (es.map KV.p).length = es.length := by simp
  refine s_lsp rfl (fun t1 => ?_) (fun t1 => ?_)
  · refine sx ?_
    refine s_ret2 rfl rfl rfl ⟨?_, rfl⟩
    have t1 : sizedL size = false := by simpa using t1
    simp [splN, splE, t1]
  have t1 : sizedL size = true := by simpa using t1
  have hb := sized_bd t1
  refine sx ?_
  refine s_if rfl (fun t2 => ?_) (fun t2 => ?_)
  · refine sx ?_
    refine s_ret2 rfl rfl rfl ⟨?_, rfl⟩
    have t2 : es.length < 2 := by omega
    simp [splN, splE, t2]
  have t2 : ¬ es.length < 2 := by omega
  refine sx ?_
  refine s_callV rfl (lmay_s (by exact ren) hb.1 hb.2) ?_
  refine sx ?_
  refine s_ifn rfl (fun t3 => ?_) (fun t3 => ?_)
  · refine sx ?_
    refine s_ret2 rfl rfl rfl ⟨?_, rfl⟩
    simp [splN, splE, t1, t2, t3]
  refine sx ?_
  refine s_callV rfl (lbytes_s (by exact ren) hS) ?_
  refine sx ?_
  have hby := bytes_le (ps := es.map KV.p)
  refine s_loop (fun k : Nat => [(0, .int .i64 size), (1, .slice a es.length c), (7, .int .i64 (bytesL (es.map KV.p))), (8, .int .i64 ((2 + sumB [] ((es.map KV.p).take k) : Nat) : Int)), (9, .int .i64 (spl (lgr (es.map KV.p)) k).1), (10, .int .i64 (spl (lgr (es.map KV.p)) k).2), (11, .int .i64 ((k + 1 : Nat) : Int))])
    (fun _ => H) (fun k => k < es.length) (fun k => es.length - k) 0 (by omega) ?_
  intro k hk
  have hs1 := sumB_take_le (es.map KV.p) k
  have hs2 := sumB_take_le (es.map KV.p) (k + 1)
  have hst := sumB_take (ps := es.map KV.p) (i := k) (by simpa using hk)
  have hb1 := spl_bd (lgr (es.map KV.p)) k
  have hb2 := spl_bd2 (ps := es.map KV.p) k (by simpa using hk)
  refine sx ?_
  refine s_if rfl (fun t4 => ?_) (fun t4 => ?_)
  · have hk1 : k + 1 < es.length := by omega
    obtain ⟨e1, hke⟩ := get_lt es (k + 1) hk1
    have hcw := common_wt (map_get hke)
    refine sx ?_
    refine s_rw (t := 39) rfl (ci (by omega : _ = ((k : Nat) : Int))) ?_
    refine s_callV rfl (llong_s (by exact ren) hS hk) ?_
    refine sx ?_
    refine s_callV rfl (lalike_s (by exact ren) hk1) ?_
    refine sx ?_
    refine s_rw (t := 13) (v' := .int .i64 (lgr (es.map KV.p) (k + 1))) rfl (ci (by unfold lgr; omega)) ?_
    have hsp : spl (lgr (es.map KV.p)) (k + 1) = if (spl (lgr (es.map KV.p)) k).1 = 0 ∨ lgr (es.map KV.p) (k + 1) < (spl (lgr (es.map KV.p)) k).2 then (((k + 1 : Nat) : Int), lgr (es.map KV.p) (k + 1)) else spl (lgr (es.map KV.p)) k := rfl
    refine s_lif rfl (fun t5 => ?_) (fun t5 => ?_)
    · rw [if_pos (.inl t5)] at hsp
      refine sx ?_
      refine s_again (k + 1) hk1 (by omega) (by rw [hsp]; repeat (first | exact trivial | refine And.intro (by first | exact rfl | exact congrArg some (ci (by omega))) ?_))
    · refine sx ?_
      refine s_if rfl (fun t6 => ?_) (fun t6 => ?_)
      · rw [if_pos (.inr t6)] at hsp
        refine sx ?_
        refine s_again (k + 1) hk1 (by omega) (by rw [hsp]; repeat (first | exact trivial | refine And.intro (by first | exact rfl | exact congrArg some (ci (by omega))) ?_))
      · rw [if_neg (by omega)] at hsp
        refine sx ?_
        refine s_again (k + 1) hk1 (by omega) (by rw [hsp]; repeat (first | exact trivial | refine And.intro (by first | exact rfl | exact congrArg some (ci (by omega))) ?_))
  · have hk2 : k = es.length - 1 := by omega
    subst hk2
    refine sx ?_
    refine s_if rfl (fun t5 => ?_) (fun t5 => ?_)
    · refine sx ?_
      refine s_ret2 rfl rfl rfl ⟨?_, rfl⟩
      simp only [splN, splE, t1, hL, t2, t3]
      rw [if_pos t5]
      simp [t5]
    · refine sx ?_
      refine s_ret2 rfl rfl rfl ⟨?_, rfl⟩
      simp only [splN, splE, t1, hL, t2, t3]
      rw [if_neg t5]
      simp [t5]

theorem long_eq {es : List KV} {k : Nat} {e : KV} (h : es[k]? = some e) : longL (es.map KV.p) k = 6 + e.k.length - common (prevK (es.map KV.p) k) e.k + e.v.length := by
  rw [longL, keyAt_get (map_get h), valAt_get (map_get h)]
theorem rsplit_s {a : Option Addr} {c : Nat} {es : List KV} (he : REn w0 H a c es) (hS : Small (es.map KV.p)) {size : Int} (hz : I64 size) :
    FnV Try.prog w0 H 31 #[.int .i64 size, .slice a es.length c] (.tuple #[.int .i64 (splN size (es.map KV.p)), .int .i64 (splE size (es.map KV.p))]) := by
  refine fns_enter Try.func31 rfl rfl rfl ?_
  have hwl := wt_len (es.map KV.p)
  simp only [List.length_map, Small] at hwl hS
  refine sx ?_
  refine s_callV rfl rsized_s ?_
  refine sx ?_
  have hL : (es.map KV.p).length = es.length := by simp
  refine s_lsp rfl (fun t1 => ?_) (fun t1 => ?_)
  · refine sx ?_
    refine s_ret2 rfl rfl rfl ⟨?_, rfl⟩
    have t1 : sizedL size = false := by simpa using t1
    simp [splN, splE, t1]
  have t1 : sizedL size = true := by simpa using t1
  have hb := sized_bd t1
  refine sx ?_
  refine s_if rfl (fun t2 => ?_) (fun t2 => ?_)
  · refine sx ?_
    refine s_ret2 rfl rfl rfl ⟨?_, rfl⟩
    have t2 : es.length < 2 := by omega
    simp [splN, splE, t2]
  have t2 : ¬ es.length < 2 := by omega
  refine sx ?_
  refine s_callV rfl (rentries_s (by exact ren) hb.1 hb.2) ?_
  refine sx ?_
  refine s_ifn rfl (fun t3 => ?_) (fun t3 => ?_)
  · refine sx ?_
    refine s_ret2 rfl rfl rfl ⟨?_, rfl⟩
    simp [splN, splE, t1, t2, t3]
  refine sx ?_
  refine s_callV rfl (rbytes_s (by exact ren) hS) ?_
  refine sx ?_
  have hby := bytes_le (ps := es.map KV.p)
  refine s_loop (fun k : Nat => [(0, .int .i64 size), (1, .slice a es.length c), (8, .int .i64 (bytesL (es.map KV.p))), (9, .int .i64 ((2 + sumB [] ((es.map KV.p).take k) : Nat) : Int)), (10, .int .i64 (spl (lgr (es.map KV.p)) k).1), (11, .int .i64 (spl (lgr (es.map KV.p)) k).2), (12, .int .i64 ((k + 1 : Nat) : Int))])
    (fun _ => H) (fun k => k < es.length) (fun k => es.length - k) 0 (by omega) ?_
  intro k hk
  have hs1 := sumB_take_le (es.map KV.p) k
  have hs2 := sumB_take_le (es.map KV.p) (k + 1)
  have hst := sumB_take (ps := es.map KV.p) (i := k) (by simpa using hk)
  have hb1 := spl_bd (lgr (es.map KV.p)) k
  have hb2 := spl_bd2 (ps := es.map KV.p) k (by simpa using hk)
  refine sx ?_
  refine s_if rfl (fun t4 => ?_) (fun t4 => ?_)
  · have hk1 : k + 1 < es.length := by omega
    obtain ⟨e0, hke0⟩ := get_lt es k hk
    obtain ⟨e1, hke⟩ := get_lt es (k + 1) hk1
    have hcw := common_wt (map_get hke)
    have hw0 := wt_get (map_get hke0)
    have hlo := long_eq hke0
    have hcl := common_le (prevK (es.map KV.p) k) e0.k
    have hk0 := he.key (List.mem_of_getElem? hke0)
    have hk1' := he.key (List.mem_of_getElem? hke)
    have hp1 : prevK (es.map KV.p) (k + 1) = e0.k := prevK_get (map_get hke0)
    have hq1 : keyAt (es.map KV.p) (k + 1) = e1.k := keyAt_get (map_get hke)
    simp only at hw0
    rw [hp1, hq1] at hcw
    refine sx ?_
    refine sx ?_; refine s_dr (.one true 0 (.one true 1 (.one true 2 (.one true 3 (.one true 4 (.one true 5 (.one true 6 (.one true 7 (.one true 8 (.one true 9 (.one true 10 (.one true 11 (.one true 12 (.one true 13 (.one true 14 (.one true 15 (.one true 16 (.one true 17 (.one true 18 .nil))))))))))))))))))) mixed (by kernel_rfl) ?_; refine sx ?_
    refine s_cut (ι := Unit) (fun _ => [(0, .int .i64 size), (1, .slice a es.length c), (8, .int .i64 (bytesL (es.map KV.p))), (9, .int .i64 ((2 + sumB [] ((es.map KV.p).take (k + 1)) : Nat) : Int)), (10, .int .i64 (spl (lgr (es.map KV.p)) k).1), (11, .int .i64 (spl (lgr (es.map KV.p)) k).2), (12, .int .i64 ((k + 1 : Nat) : Int))]) (fun _ => H) (fun _ => True) ?_ (fun _ _ => ?_)
    · refine s_if rfl (fun t7 => ?_) (fun t7 => ?_)
      · obtain ⟨j, rfl⟩ : ∃ j, k = j + 1 := ⟨k - 1, by omega⟩
        obtain ⟨e2, hke2⟩ := get_lt es j (by omega)
        have hk2 := he.key (List.mem_of_getElem? hke2)
        have hp2 : prevK (es.map KV.p) (j + 1) = e2.k := prevK_get (map_get hke2)
        rw [hp2] at hlo hcl
        refine sx ?_
        refine sx ?_; refine s_dr (.one true 0 (.one true 1 (.one true 2 (.one true 3 (.one true 4 (.one true 5 (.one true 6 (.one true 7 (.one true 8 (.one true 9 (.one true 10 (.one true 11 (.one true 12 (.one false 13 (.one true 14 (.one true 15 .nil)))))))))))))))) mixed (by kernel_rfl) ?_; refine sx ?_
        refine s_rw (t := 60) rfl (ci (by omega : _ = ((j : Nat) : Int))) ?_
        refine sx ?_
        refine s_callV rfl (rcommon_s (by exact rby) (by exact rby)) ?_
        refine sx ?_
        exact s_mid () trivial
      · obtain rfl : k = 0 := by omega
        rw [prevK, common_nil] at hlo
        refine sx ?_
        exact s_mid () trivial
    refine sx ?_
    refine sx ?_; refine s_dr (.one true 0 (.one true 1 (.one true 2 (.one true 3 (.one true 4 (.one true 5 (.one true 6 (.one true 7 (.one true 8 (.one true 9 (.one true 10 (.one true 11 (.one true 12 (.one true 13 (.one true 14 (.one true 15 (.one false 16 (.one true 17 (.one true 18 (.one true 19 .nil)))))))))))))))))))) mixed (by kernel_rfl) ?_; refine sx ?_
    refine s_callV rfl (rcommon_s (by exact rby) (by exact rby)) ?_
    refine sx ?_
    refine s_rw (t := 13) (v' := .int .i64 (lgr (es.map KV.p) (k + 1))) rfl (ci (by unfold lgr; rw [hp1, hq1]; omega)) ?_
    have hsp : spl (lgr (es.map KV.p)) (k + 1) = if (spl (lgr (es.map KV.p)) k).1 = 0 ∨ lgr (es.map KV.p) (k + 1) < (spl (lgr (es.map KV.p)) k).2 then (((k + 1 : Nat) : Int), lgr (es.map KV.p) (k + 1)) else spl (lgr (es.map KV.p)) k := rfl
    refine s_lif rfl (fun t5 => ?_) (fun t5 => ?_)
    · rw [if_pos (.inl t5)] at hsp
      refine sx ?_
      refine s_again (k + 1) hk1 (by omega) (by rw [hsp]; repeat (first | exact trivial | refine And.intro (by first | exact rfl | exact congrArg some (ci (by omega))) ?_))
    · refine sx ?_
      refine s_if rfl (fun t6 => ?_) (fun t6 => ?_)
      · rw [if_pos (.inr t6)] at hsp
        refine sx ?_
        refine s_again (k + 1) hk1 (by omega) (by rw [hsp]; repeat (first | exact trivial | refine And.intro (by first | exact rfl | exact congrArg some (ci (by omega))) ?_))
      · rw [if_neg (by omega)] at hsp
        refine sx ?_
        refine s_again (k + 1) hk1 (by omega) (by rw [hsp]; repeat (first | exact trivial | refine And.intro (by first | exact rfl | exact congrArg some (ci (by omega))) ?_))
  · have hk2 : k = es.length - 1 := by omega
    subst hk2
    refine sx ?_
    refine s_if rfl (fun t5 => ?_) (fun t5 => ?_)
    · refine sx ?_
      refine s_ret2 rfl rfl rfl ⟨?_, rfl⟩
      simp only [splN, splE, t1, hL, t2, t3]
      rw [if_pos t5]
      simp [t5]
    · refine sx ?_
      refine s_ret2 rfl rfl rfl ⟨?_, rfl⟩
      simp only [splN, splE, t1, hL, t2, t3]
      rw [if_neg t5]
      simp [t5]
end Go.Sx
