/- What is laid is read again; a node's bytes, walked from the front. -/
import Derived.Test.YtkcabddbeclokaaGreatCVD
namespace Go.Sx
open Go Go.Proofs
set_option maxRecDepth 10000
theorem w32_four {n : Int} (h : 0 ≤ n ∧ n < 65536) (xs : Bs) : (w32 (four4 n ++ xs) : Int) = n := by
  have e0 : (UInt8.ofInt (n / 16777216)).toNat = 0 := by simp [UInt8.ofInt]; omega
  have e1 : (UInt8.ofInt (n / 65536)).toNat = 0 := by simp [UInt8.ofInt]; omega
  have e2 : ((UInt8.ofInt (n / 256)).toNat : Int) = n / 256 := by simp [UInt8.ofInt]; omega
  have e3 : ((UInt8.ofInt n).toNat : Int) = n % 256 := by simp [UInt8.ofInt]; omega
  show ((((UInt8.ofInt (n / 16777216)).toNat * 256 + (UInt8.ofInt (n / 65536)).toNat) * 256 + (UInt8.ofInt (n / 256)).toNat) * 256 + (UInt8.ofInt n).toNat : Nat) = n
  rw [e0, e1]
  omega
theorem pgs_back : ∀ (ps : List Int) (xs : Bs), (∀ n ∈ ps, 0 ≤ n ∧ n < 65536) → pgs ps.length (ps.flatMap four4 ++ xs) = ps
  | [], xs, _ => rfl
  | n :: r, xs, h => by
    have h1 := pgs_back r xs (fun m hm => h m (by simp [hm]))
    rw [List.length_cons, pgs, List.flatMap_cons, List.append_assoc, w32_four (h n (by simp))]
    have : (four4 n ++ (r.flatMap four4 ++ xs)).drop 4 = r.flatMap four4 ++ xs := rfl
    rw [this, h1]
theorem kys_back : ∀ (ks : List Bs), (∀ x ∈ ks, x.length < 65536) → kys ks.length (ks.flatMap keyE) = some (ks, [])
  | [], _ => rfl
  | x :: r, h => by
    have h1 := kys_back r (fun y hy => h y (by simp [hy]))
    have hx := h x (by simp)
    rw [List.length_cons, kys, List.flatMap_cons, keyE, List.append_assoc, w16_two hx]
    have hl : (two2 x.length ++ (x ++ r.flatMap keyE)).length = 2 + x.length + (r.flatMap keyE).length := by
      simp only [List.length_append, two2, List.length_cons, List.length_nil]; omega
    rw [if_neg (by omega)]
    have e1 : (two2 (x.length : Int) ++ (x ++ r.flatMap keyE)).drop (2 + x.length) = r.flatMap keyE := by
      rw [← List.drop_drop]
      show (x ++ r.flatMap keyE).drop x.length = _
      exact List.drop_left
    have e2 : ((two2 (x.length : Int) ++ (x ++ r.flatMap keyE)).drop 2).take x.length = x := by
      show (x ++ r.flatMap keyE).take x.length = _
      exact List.take_left
    rw [e1, e2, h1]
    rfl
theorem read_back {size : Int} {d : List Int × List Bs} (h : chkK size d = 0) : readK (encK d) = some d := by
  obtain ⟨hs, ⟨hf, h2, hp⟩, hy, hR, hB⟩ := chkK_0 h
  have hb := sizedB_bd hs
  have hpl := pg_bd hp
  have hl : (d.1.flatMap four4 ++ d.2.flatMap keyE).length = 4 * d.1.length + keysB d.2 := by rw [List.length_append, fourL, keyL]
  have he := encK_len d
  have hw : w16 (encK d) = d.1.length := by
    rw [encK, List.append_assoc]
    exact w16_two (by have : bytesK d = 2 + 4 * d.1.length + keysB d.2 := rfl; omega)
  have hbk : bytesK d = 2 + 4 * d.1.length + keysB d.2 := rfl
  rw [readK, hw, if_neg (by omega)]
  have e1 : (encK d).drop (2 + 4 * d.1.length) = d.2.flatMap keyE := by
    rw [encK, List.append_assoc, ← List.drop_drop]
    show (d.1.flatMap four4 ++ d.2.flatMap keyE).drop (4 * d.1.length) = _
    rw [← fourL]
    exact List.drop_left
  have e2 : (encK d).drop 2 = d.1.flatMap four4 ++ d.2.flatMap keyE := by
    rw [encK, List.append_assoc]; rfl
  have hk := kys_back d.2 (fun x hx => by have := hy x hx; omega)
  rw [e1, show d.1.length - 1 = d.2.length by omega, hk, e2, pgs_back d.1 _ (fun n hn => by have := hp.2 n hn; omega)]
  rfl
theorem dec_back {size : Int} {d : List Int × List Bs} (h : chkK size d = 0) : decE size (encK d) = 0 ∧ decD size (encK d) = d := by
  have hs := (chkK_0 h).1
  have e : decK size (encK d) = some d := by
    rw [decK, if_pos hs, read_back h]
    exact if_pos h
  exact ⟨by rw [decE, if_neg (by simp [hs]), e]; rfl, by rw [decD, e]; rfl⟩
theorem srcM_enc {l : List MD} (h : ∀ m ∈ l, Canon m) (hl : l.length < 4294967296) : srcM (layM l) = (l, ([], false)) := by
  have h1 : numS 4 (layM l, false) = (l.length, (l.flatMap encM1, false)) := numS_app (by omega)
  have h2 := loopS_enc l [] [] h
  rw [List.append_nil, List.nil_append] at h2
  rw [srcM, h1, h2]
theorem decM_one {size : Int} {m : MD} (h : chkM size [m] = 0) : decM size (nbN 4 1 ++ encM1 m) = some [m] := by
  have hs : sizedB size = true := by
    unfold chkM at h
    cases e : sizedB size
    · rw [e] at h; cases h
    · rfl
  have hc := chkM_canon h
  have e := srcM_enc hc (by simp)
  rw [lay_one] at e
  rw [decM, e, if_pos ⟨hs, rfl, rfl, h⟩]
variable {w0 : World} {H : List Ck}
theorem nnumber_s {a : Option Addr} {c : Nat} {xs : Bs} (hx : RBy w0 H a c xs) (hl : xs.length ≤ 2) : FnV Tryz.prog w0 H 83 #[.slice a xs.length c] (.int .i64 (beN xs : Int)) := by
  refine fns_enter Tryz.func83 rfl rfl rfl ?_
  refine sx ?_
  refine s_loop (fun i : Nat => [(3, .int .i64 (beN (xs.take i) : Int)), (6, .slice a xs.length c), (7, .int .i64 xs.length), (8, .int .i64 i)]) (fun _ => H) (fun i => i ≤ xs.length) (fun i => xs.length - i) 0 (Nat.zero_le _) ?_
  intro i hi
  refine sx ?_
  refine s_if rfl (fun t1 => ?_) (fun t1 => ?_)
  · obtain ⟨u, hu⟩ := get_lt xs i (by omega)
    have h1 := beN_step hu
    have h2 := beN_bd (xs.take i) (k := 1) (by rw [List.length_take]; omega)
    have h3 : xs.getD i 0 = u := by simp [List.getD, hu]
    have h4 := u.toNat_lt
    refine sx ?_
    refine s_rw (t := 15) (v' := .int .i64 ((u.toNat : Nat) : Int)) rfl (by rw [h3]) ?_
    refine s_yS rfl rfl rfl (y_or8 rfl rfl (by omega) (by omega)) ?_
    refine sx ?_
    exact s_again (i + 1) (by omega) (by omega)
  · obtain rfl : i = xs.length := by omega
    rw [List.take_length]
    refine sx ?_
    exact s_ret1 rfl rfl ⟨rfl, rfl⟩
theorem two_of {xs : Bs} {p : Nat} (h : p + 2 ≤ xs.length) : (xs.take (p + 2)).drop p = (xs.drop p).take 2 ∧ ((xs.drop p).take 2).length = 2 ∧ beN ((xs.drop p).take 2) = w16 (xs.drop p) := by
  have hd : (xs.drop p).length = xs.length - p := List.length_drop
  refine ⟨by rw [List.drop_take]; congr 1; omega, by rw [List.length_take, hd]; omega, beN_w16 (by omega)⟩
set_option maxHeartbeats 1000000 in
theorem nkids_s {a : Option Addr} {c : Nat} {xs : Bs} (hx : RBy w0 H a c xs) (hl : xs.length ≤ 140737488355328) : FnV Tryz.prog w0 H 59 #[.slice a xs.length c] (.int .i64 (optI (kidsB xs))) := by
  refine fns_enter Tryz.func59 rfl rfl rfl ?_
  refine s_kn (Kn.by hx) fun l1 => ?_
  simp only [maxLen] at l1
  refine sx ?_
  refine s_if rfl (fun t1 => ?_) (fun t1 => ?_)
  · rw [kidsB, if_pos (by omega)]
    refine sx ?_
    exact s_ret1 rfl rfl ⟨rfl, rfl⟩
  rw [kidsB, if_neg (by omega)]
  have hw := w16_lt xs
  have ht2 : (xs.take 2).length = 2 := by rw [List.length_take]; omega
  refine sx ?_
  refine s_yS rfl rfl rfl (y_slT (k := 2) rfl rfl (by omega)) ?_
  refine s_rw (t := 10) (v' := .slice a (xs.take 2).length c) rfl (by rw [ht2]) ?_
  refine s_callV rfl (nnumber_s (hx.take (by omega)) (by omega)) ?_
  rw [beN_w16 (by omega)]
  refine sx ?_
  refine s_loop (fun m : Nat × Nat => [(0, .slice a xs.length c), (3, .int .i64 (w16 xs : Int)), (4, .int .i64 (m.2 : Int)), (5, .int .i64 (m.1 : Int))]) (fun _ => H) (fun m => 1 ≤ m.1 ∧ m.2 ≤ xs.length + 300000 ∧ kidsL xs (w16 xs - 1) (2 + 4 * w16 xs) = kidsL xs (w16 xs - m.1) m.2) (fun m => w16 xs - m.1) (1, 2 + 4 * w16 xs) ⟨Nat.le_refl _, by simp only; omega, rfl⟩ ?_
  rintro ⟨i, p⟩ ⟨hi, hp, he⟩
  simp only at hi hp he ⊢
  refine sx ?_
  refine s_if rfl (fun t2 => ?_) (fun t2 => ?_)
  · obtain ⟨k, hk⟩ : ∃ k, w16 xs - i = k + 1 := ⟨w16 xs - i - 1, by omega⟩
    rw [hk, kidsL] at he
    refine sx ?_
    refine s_if rfl (fun t3 => ?_) (fun t3 => ?_)
    · rw [if_pos (by omega)] at he
      rw [he]
      refine sx ?_
      exact s_ret1 rfl rfl ⟨rfl, rfl⟩
    rw [if_neg (by omega)] at he
    obtain ⟨q1, q2, q3⟩ := two_of (xs := xs) (p := p) (by omega)
    have hwp := w16_lt (xs.drop p)
    have hr := hx.sl (j := p) (k := p + 2) (by omega) (by omega)
    rw [q1] at hr
    refine sx ?_
    refine s_rw (t := 29) (v' := .int .i64 ((p + 2 : Nat) : Int)) rfl (ci (by omega)) ?_
    refine sx ?_
    refine s_rw (t := 30) (v' := .slice (Sx.sl a c p 1) ((xs.drop p).take 2).length (c - p)) rfl (by rw [q2]; congr 1; omega) ?_
    refine s_callV rfl (nnumber_s hr (by omega)) ?_
    rw [q3]
    refine sx ?_
    refine s_again (i + 1, p + 2 + w16 (xs.drop p)) ⟨by simp only; omega, by simp only; omega, ?_⟩ (by simp only; omega)
    simp only
    rw [he]
    congr 1
    omega
  · have hk : w16 xs - i = 0 := by omega
    rw [hk, kidsL] at he
    rw [he]
    refine sx ?_
    refine s_if rfl (fun t3 => ?_) (fun t3 => ?_)
    · rw [if_pos (by omega)]
      refine sx ?_
      exact s_ret1 rfl rfl ⟨rfl, rfl⟩
    · rw [if_neg (by omega)]
      refine sx ?_
      exact s_ret1 rfl rfl ⟨rfl, rfl⟩
set_option maxHeartbeats 1000000 in
theorem nnext_s {a : Option Addr} {c : Nat} {xs : Bs} (hx : RBy w0 H a c xs) (hl : xs.length ≤ 140737488355328) : FnV Tryz.prog w0 H 61 #[.slice a xs.length c] (.int .i64 (optI (nextB xs))) := by
  refine fns_enter Tryz.func61 rfl rfl rfl ?_
  refine s_kn (Kn.by hx) fun l1 => ?_
  simp only [maxLen] at l1
  refine sx ?_
  refine s_if rfl (fun t1 => ?_) (fun t1 => ?_)
  · rw [nextB, if_pos (by omega)]
    refine sx ?_
    exact s_ret1 rfl rfl ⟨rfl, rfl⟩
  rw [nextB, if_neg (by omega)]
  obtain ⟨q1, q2, q3⟩ := two_of (xs := xs) (p := 9) (by omega)
  obtain ⟨p1, p2, p3⟩ := two_of (xs := xs) (p := 11) (by omega)
  have h9 := w16_lt (xs.drop 9)
  have h11 := w16_lt (xs.drop 11)
  have hr := hx.sl (j := 9) (k := 9 + 2) (by omega) (by omega)
  rw [q1] at hr
  have hr2 := hx.sl (j := 11) (k := 11 + 2) (by omega) (by omega)
  rw [p1] at hr2
  refine sx ?_
  refine sx ?_; refine s_dr (.one true 0 (.one true 1 (.one true 4 (.one true 5 (.one false 2 (.one true 3 (.one false 6 (.one true 7 (.one true 8 .nil))))))))) mixed (by kernel_rfl) ?_; refine sx ?_
  refine s_yH rfl rfl rfl (y_slB (j := 9) (k := 11) rfl rfl rfl (by omega)) ?_
  refine s_rw (t := 8) (v' := .slice (Sx.sl a c 9 1) ((xs.drop 9).take 2).length (c - 9)) rfl (by rw [q2]) ?_
  refine sx ?_
  refine s_yH rfl rfl rfl (y_slB (j := 11) (k := 13) rfl rfl rfl (by omega)) ?_
  refine s_rw (t := 12) (v' := .slice (Sx.sl a c 11 1) ((xs.drop 11).take 2).length (c - 11)) rfl (by rw [p2]) ?_
  refine s_callV rfl (nnumber_s hr (by omega)) ?_
  rw [q3]
  refine sx ?_
  refine s_callV rfl (nnumber_s hr2 (by omega)) ?_
  rw [p3]
  refine sx ?_
  refine s_if rfl (fun t2 => ?_) (fun t2 => ?_)
  · rw [if_pos (by omega)]
    refine sx ?_
    exact s_ret1 rfl rfl ⟨rfl, rfl⟩
  · rw [if_neg (by omega)]
    refine sx ?_
    exact s_ret1 rfl rfl ⟨rfl, rfl⟩
end Go.Sx
