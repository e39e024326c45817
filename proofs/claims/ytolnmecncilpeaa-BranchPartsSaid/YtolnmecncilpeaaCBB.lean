/- Part of a proof: the law BranchForm, walked: there and back, one form. -/
import Derived.Test.YtolnmecncilpeaaCBA
namespace Go.Sx
open Go Go.Proofs
set_option maxRecDepth 10000
variable {w0 : World} {H : List Ck}
def pkL (c n : Int) : Int := (if c < 0 then -(c + 1) else c) % n
theorem pkL_bd {c n : Int} (hn : 0 < n) : 0 ≤ pkL c n ∧ pkL c n < n := ⟨Int.emod_nonneg _ (by omega), Int.emod_lt_of_pos _ hn⟩
theorem pick_s {c n : Int} (hc : I64 c) (hn : 0 < n) : FnV Try.prog w0 H 27 #[.int .i64 c, .int .i64 n] (.int .i64 (pkL c n)) := by
  refine fns_enter Try.func27 rfl rfl rfl ?_
  refine sx ?_
  refine s_if rfl (fun t1 => ?_) (fun t1 => ?_)
  · refine sx ?_
    refine s_ret1 rfl rfl ⟨?_, rfl⟩
    rw [pkL, if_pos t1]
  · refine sx ?_
    refine s_ret1 rfl rfl ⟨?_, rfl⟩
    rw [pkL, if_neg t1]
/-! ### Plain -/
theorem decE_0 {size : Int} {xs : Bs} (h : decE size xs = 0) : ∃ d, decK size xs = some d ∧ decD size xs = d ∧ readK xs = some d ∧ chkK size d = 0 := by
  unfold decE at h
  split at h
  · cases h
  · split at h
    · rename_i h1 h2
      obtain ⟨d, hd⟩ := Option.isSome_iff_exists.1 h2
      refine ⟨d, hd, by rw [decD, hd]; rfl, ?_⟩
      rw [decK, if_pos (by simpa using h1)] at hd
      obtain ⟨d', h3, h4⟩ := Option.bind_eq_some_iff.1 hd
      split at h4
      · rename_i h5
        cases h4
        exact ⟨h3, h5⟩
      · cases h4
    · cases h
theorem getD_app {xs ys : Bs} {i : Nat} (h : i < xs.length) : (xs ++ ys).getD i 0 = xs.getD i 0 := by
  simp only [List.getD_eq_getElem?_getD]
  rw [List.getElem?_append_left h]
theorem w16_app {xs ys : Bs} (h : 2 ≤ xs.length) : w16 (xs ++ ys) = w16 xs := by
  simp only [w16, by8]
  rw [getD_app (by omega), getD_app (by omega)]
theorem kys_app : ∀ (n : Nat) {xs ys : Bs} {ks : List Bs} {r : Bs}, kys n xs = some (ks, r) → kys n (xs ++ ys) = some (ks, r ++ ys)
  | 0, xs, ys, ks, r, h => by
    simp only [kys, Option.some.injEq, Prod.mk.injEq] at h ⊢
    obtain ⟨rfl, rfl⟩ := h
    exact ⟨rfl, rfl⟩
  | n + 1, xs, ys, ks, r, h => by
    rw [kys] at h
    split at h
    · cases h
    · rename_i hc
      obtain ⟨⟨ks', r'⟩, h1, h2⟩ := Option.map_eq_some_iff.1 h
      simp only [Prod.mk.injEq] at h2
      obtain ⟨rfl, rfl⟩ := h2
      have h3 := kys_app n (ys := ys) h1
      have hl : (xs ++ ys).length = xs.length + ys.length := List.length_append
      rw [kys, w16_app (by omega), if_neg (by omega)]
      rw [List.drop_append_of_le_length (by omega), List.drop_append_of_le_length (by omega), h3]
      rw [List.take_append_of_le_length (by rw [List.length_drop]; omega)]
      rfl
/-- Nothing that has bytes behind it is a branch. -/
theorem read_app {xs ys : Bs} {d : List Int × List Bs} (h : readK xs = some d) (hy : ys ≠ []) : readK (xs ++ ys) = none := by
  unfold readK at h
  split at h
  · cases h
  · rename_i hc
    obtain ⟨⟨ks, r⟩, h1, h2⟩ := Option.bind_eq_some_iff.1 h
    simp only at h2
    split at h2
    · rename_i hr
      have h3 := kys_app _ (ys := ys) h1
      have hl : (xs ++ ys).length = xs.length + ys.length := List.length_append
      rw [readK, w16_app (by omega), if_neg (by omega), List.drop_append_of_le_length (by omega), h3]
      have hy' : 0 < ys.length := List.length_pos_iff.2 hy
      simp only [Option.bind_some]
      rw [if_neg (by rw [List.length_append]; omega)]
    · cases h2
theorem w16_two {n : Nat} (h : n < 65536) (xs : Bs) : w16 (two2 n ++ xs) = n := by
  have e1 : (UInt8.ofInt ((n : Int) / 256)).toNat = n / 256 := by simp [UInt8.ofInt]; omega
  have e2 : (UInt8.ofInt (n : Int)).toNat = n % 256 := by simp [UInt8.ofInt]; omega
  show (UInt8.ofInt ((n : Int) / 256)).toNat * 256 + (UInt8.ofInt (n : Int)).toNat = n
  rw [e1, e2]
  omega
theorem w32_four {n : Int} (h : 0 ≤ n ∧ n < 65536) (xs : Bs) : (w32 (four4 n ++ xs) : Int) = n := by
  have e0 : (UInt8.ofInt (n / 16777216)).toNat = 0 := by simp [UInt8.ofInt]; omega
  have e1 : (UInt8.ofInt (n / 65536)).toNat = 0 := by simp [UInt8.ofInt]; omega
  have e2 : ((UInt8.ofInt (n / 256)).toNat : Int) = n / 256 := by simp [UInt8.ofInt]; omega
  have e3 : ((UInt8.ofInt n).toNat : Int) = n % 256 := by simp [UInt8.ofInt]; omega
  show ((((UInt8.ofInt (n / 16777216)).toNat * 256 + (UInt8.ofInt (n / 65536)).toNat) * 256 + (UInt8.ofInt (n / 256)).toNat) * 256 + (UInt8.ofInt n).toNat : Nat) = n
  rw [e0, e1]
  omega
theorem pgs_back : ∀ (ps : List Int) (xs : Bs), (∀ n ∈ ps, 0 ≤ n ∧ n < 65536) → pgs ps.length (ps.flatMap four4 ++ xs) = ps
  | [], xs, _ => rfl
  | n :: r, xs, h => by
    have h1 := pgs_back r xs (fun m hm => h m (by simp [hm]))
    rw [List.length_cons, pgs, List.flatMap_cons, List.append_assoc, w32_four (h n (by simp))]
    have : (four4 n ++ (r.flatMap four4 ++ xs)).drop 4 = r.flatMap four4 ++ xs := rfl
    rw [this, h1]
theorem kys_back : ∀ (ks : List Bs), (∀ x ∈ ks, x.length < 65536) → kys ks.length (ks.flatMap keyE) = some (ks, [])
  | [], _ => rfl
  | x :: r, h => by
    have h1 := kys_back r (fun y hy => h y (by simp [hy]))
    have hx := h x (by simp)
    rw [List.length_cons, kys, List.flatMap_cons, keyE, List.append_assoc, w16_two hx]
    have hl : (two2 x.length ++ (x ++ r.flatMap keyE)).length = 2 + x.length + (r.flatMap keyE).length := by
      simp only [List.length_append, two2, List.length_cons, List.length_nil]; omega
    rw [if_neg (by omega)]
    have e1 : (two2 (x.length : Int) ++ (x ++ r.flatMap keyE)).drop (2 + x.length) = r.flatMap keyE := by
      rw [← List.drop_drop]
      show (x ++ r.flatMap keyE).drop x.length = _
      exact List.drop_left
    have e2 : ((two2 (x.length : Int) ++ (x ++ r.flatMap keyE)).drop 2).take x.length = x := by
      show (x ++ r.flatMap keyE).take x.length = _
      exact List.take_left
    rw [e1, e2, h1]
    rfl
theorem read_back {size : Int} {d : List Int × List Bs} (h : chkK size d = 0) : readK (encK d) = some d := by
  obtain ⟨hs, ⟨hf, h2, hp⟩, hy, hR, hB⟩ := chkK_0 h
  have hb := sizedB_bd hs
  have hpl := pg_bd hp
  have hl : (d.1.flatMap four4 ++ d.2.flatMap keyE).length = 4 * d.1.length + keysB d.2 := by rw [List.length_append, fourL, keyL]
  have he := encK_len d
  have hw : w16 (encK d) = d.1.length := by
    rw [encK, List.append_assoc]
    exact w16_two (by have : bytesK d = 2 + 4 * d.1.length + keysB d.2 := rfl; omega) _
  have hbk : bytesK d = 2 + 4 * d.1.length + keysB d.2 := rfl
  rw [readK, hw, if_neg (by omega)]
  have e1 : (encK d).drop (2 + 4 * d.1.length) = d.2.flatMap keyE := by
    rw [encK, List.append_assoc, ← List.drop_drop]
    show (d.1.flatMap four4 ++ d.2.flatMap keyE).drop (4 * d.1.length) = _
    rw [← fourL]
    exact List.drop_left
  have e2 : (encK d).drop 2 = d.1.flatMap four4 ++ d.2.flatMap keyE := by
    rw [encK, List.append_assoc]; rfl
  have hk := kys_back d.2 (fun x hx => by have := hy x hx; omega)
  rw [e1, show d.1.length - 1 = d.2.length by omega, hk, e2, pgs_back d.1 _ (fun n hn => by have := hp.2 n hn; omega)]
  rfl
theorem dec_back {size : Int} {d : List Int × List Bs} (h : chkK size d = 0) : decE size (encK d) = 0 ∧ decD size (encK d) = d := by
  have hs := (chkK_0 h).1
  have e : decK size (encK d) = some d := by
    rw [decK, if_pos hs, read_back h]
    exact if_pos h
  exact ⟨by rw [decE, if_neg (by simp [hs]), e]; rfl, by rw [decD, e]; rfl⟩
theorem dec_65 {size : Int} {xs : Bs} (hs : sizedB size = true) (h : readK xs = none) : decE size xs = 65 := by
  rw [decE, if_neg (by simp [hs]), decK, if_pos hs, h]; rfl
theorem read_cut {xs : Bs} {d : List Int × List Bs} (h : readK xs = some d) {n : Nat} (hn : n < xs.length) : readK (xs.take n) = none := by
  cases h1 : readK (xs.take n) with
  | none => rfl
  | some d' =>
    have h2 := read_app (ys := xs.drop n) h1 (fun e => by have := congrArg List.length e; simp at this; omega)
    rw [List.take_append_drop, h] at h2
    cases h2
set_option maxHeartbeats 1000000 in
theorem form_s {k : Kd} {size at' : Int} {a : Option Addr} {c : Nat} {xs : Bs} (hk : RKd w0 H k) (hI : ∀ n ∈ k.ps, I64 n) (hx : RBy w0 H a c xs) (ha : I64 at') :
    FnV Try.prog w0 H 7 #[.int .i64 size, .agg k.cells.toArray, .slice a xs.length c, .int .i64 at'] (.bool true) := by
  refine fns_enter Try.func7 rfl rfl rfl ?_
  refine sx ?_
  refine s_boxA rfl fun b5 => ?_
  refine sx ?_
  refine s_callV rfl alive_s ?_
  refine sx ?_
  refine s_call rfl (bdecode_s (size := size) (xs := xs) (by exact rby)) ?_
  rintro _ _ ⟨kx, rfl, hkx, rfl⟩
  refine ⟨chk_seq, ?_⟩
  refine sx ?_
  refine s_alloc fun b10 => ?_
  refine sx ?_
  refine s_cut (ι := Unit) (fun _ => [(0, .int .i64 size), (3, .int .i64 at'), (5, .pointer (some ⟨b5, 0, none⟩)), (9, .bool true)]) (fun _ => .hb b5 31 k.cells :: H) (fun _ => True) ?_ (fun _ _ => ?_)
  · refine sx ?_
    refine s_if rfl (fun t1 => ?_) (fun t1 => ?_)
    · obtain ⟨d, h1, h2, h3, h4⟩ := decE_0 t1
      rw [h2] at hkx
      have hpg : ∀ n ∈ kx.ps, I64 n := fun n hn => by
        have hp := (chkK_0 h4).2.1.2.2
        have : kx.ps = d.1 := congrArg Prod.fst hkx
        rw [this] at hn
        have := hp.2 n hn
        omega
      have hx2 : encR size kx.d = xs := by rw [hkx, encR, if_pos h4]; exact (read_enc h3).1
      have hc0 : chkK size kx.d = 0 := by rw [hkx]; exact h4
      refine sx ?_
      refine s_call rfl (bencode_s (k := kx) (by exact rkd) hpg) ?_
      rintro _ _ ⟨a2, c2, rfl, rfl⟩
      rw [hx2, hc0]
      refine ⟨chk_seq, ?_⟩
      refine sx ?_
      exact s_mid () trivial
    · refine sx ?_
      exact s_mid () trivial
  refine sx ?_
  refine s_call rfl (bencode_s (k := k) (size := size) (by exact rkd) hI) ?_
  rintro _ _ ⟨a2, c2, rfl, rfl⟩
  refine ⟨chk_seq, ?_⟩
  refine sx ?_
  refine s_ifn rfl (fun t1 => ?_) (fun t1 => ?_)
  · have t1 : ¬ chkK size k.d = 0 := t1
    have he : encR size k.d = [] := by rw [encR, if_neg t1]
    rw [he]
    refine sx ?_
    refine s_callV rfl (bcheck_s (k := k) (by exact rkd) hI) ?_
    refine sx ?_
    exact s_ret1 rfl rfl ⟨rfl, rfl⟩
  have t1 : chkK size k.d = 0 := t1
  obtain ⟨hs, hP, hy, hR, hB⟩ := chkK_0 t1
  have hb := sizedB_bd hs
  have he : encR size k.d = encK k.d := by rw [encR, if_pos t1]
  have hr := read_back t1
  have hdb := dec_back t1
  have hel := encK_len k.d
  have hbk : bytesK k.d = 2 + 4 * k.d.1.length + keysB k.d.2 := rfl
  rw [he]
  generalize hZ : encK k.d = Z at hr hdb hel
  refine sx ?_
  refine s_call rfl (bdecode_s (size := size) (xs := Z) (by exact rby)) ?_
  rintro _ _ ⟨ky, rfl, hky, rfl⟩
  rw [hdb.2] at hky
  rw [hdb.1]
  refine ⟨chk_seq, ?_⟩
  refine sx ?_
  refine s_alloc fun b16 => ?_
  refine sx ?_
  have hpb := pkL_bd (c := at') (n := (Z.length : Int)) (by omega)
  refine s_callV rfl (pick_s ha (by omega)) ?_
  obtain ⟨p, hp⟩ := Int.eq_ofNat_of_zero_le hpb.1
  rw [hp] at hpb ⊢
  have hzc : RBy w0 (.hb b16 31 ky.cells :: oK ky :: ob a2 c2 Z :: .hb b5 31 k.cells :: H) a2 c2 (Z.take p) := (RBy.tl (RBy.tl RBy.hd) : RBy w0 (.hb b16 31 ky.cells :: oK ky :: ob a2 c2 Z :: .hb b5 31 k.cells :: H) a2 c2 Z).take (by omega)
  refine s_knL (Kn.by (RBy.tl (RBy.tl RBy.hd) : RBy w0 (.hb b16 31 ky.cells :: oK ky :: ob a2 c2 Z :: .hb b5 31 k.cells :: H) a2 c2 Z)) fun l2 => ?_
  simp only [maxLen] at l2
  refine sx ?_
  have hpl : (Z.take p).length = p := by rw [List.length_take]; omega
  refine s_rw (t := 80) (v' := .slice a2 (Z.take p).length c2) rfl (by rw [hpl]) ?_
  refine s_call rfl (bdecode_s (size := size) (xs := Z.take p) (by exact rby)) ?_
  rintro _ _ ⟨kz, rfl, hkz, rfl⟩
  rw [dec_65 hs (read_cut hr (by omega))]
  refine ⟨chk_seq, ?_⟩
  refine sx ?_
  refine s_alloc fun b18 => ?_
  refine sx ?_
  refine s_bsl ([] : List UInt8) rfl rfl fun b86 => ?_
  refine sx ?_
  refine s_app (ys := Z) ?_
  intro a88 c88
  refine sx ?_
  refine s_bsl ([UInt8.ofInt at'] : Bs) rfl rfl fun b91 => ?_
  refine s_app ?_
  intro a92 c92
  refine sx ?_
  have hzz : [] ++ Z ++ [UInt8.ofInt at'] = Z ++ [UInt8.ofInt at'] := by simp
  rw [hzz]
  refine s_call rfl (bdecode_s (size := size) (xs := Z ++ [UInt8.ofInt at']) (by exact rby)) ?_
  rintro _ _ ⟨kw, rfl, hkw, rfl⟩
  rw [dec_65 hs (read_app hr (by simp))]
  refine ⟨chk_seq, ?_⟩
  refine sx ?_
  refine s_alloc fun b20 => ?_
  refine sx ?_
  refine s_callV rfl (rsame_t (k := ky) (q := k) (by exact rkd) (by exact rkd) hky) ?_
  refine sx ?_
  refine s_callV rfl (bbytes_s (k := k) (by exact rkd) (by omega)) ?_
  rw [← hel]
  refine sx ?_
  exact s_ret1 rfl rfl ⟨rfl, rfl⟩
end Go.Sx
