/- Part of a proof: branch.Encode, by the program and by the document. -/
import Derived.Test.YtkcabddbeclokaaGreatCB3
namespace Go.Sx
open Go Go.Proofs
set_option maxRecDepth 10000
variable {w0 : World} {H : List Ck}
def two2 (n : Int) : Bs := [UInt8.ofInt (n / 256), UInt8.ofInt n]
def four4 (n : Int) : Bs := [UInt8.ofInt (n / 16777216), UInt8.ofInt (n / 65536), UInt8.ofInt (n / 256), UInt8.ofInt n]
def keyE (x : Bs) : Bs := two2 x.length ++ x
def encK (d : List Int × List Bs) : Bs := two2 d.1.length ++ d.1.flatMap four4 ++ d.2.flatMap keyE
def encR (size : Int) (d : List Int × List Bs) : Bs := if chkK size d = 0 then encK d else []
theorem flatS {α β : Type} (f : α → List β) {l : List α} {i : Nat} {x : α} (h : l[i]? = some x) : (l.take (i + 1)).flatMap f = (l.take i).flatMap f ++ f x := by
  rw [snocT h, List.flatMap_append]; simp
theorem fourL (ps : List Int) : (ps.flatMap four4).length = 4 * ps.length := by
  induction ps with
  | nil => rfl
  | cons x r ih => simp only [List.flatMap_cons, List.length_append, ih, List.length_cons, four4, List.length_nil]; omega
theorem keyL (ks : List Bs) : (ks.flatMap keyE).length = keysB ks := by
  induction ks with
  | nil => rfl
  | cons x r ih => simp only [List.flatMap_cons, List.length_append, ih, keyE, two2, List.length_cons, List.length_nil, keysB, List.map_cons, List.sum_cons]
theorem encK_len (d : List Int × List Bs) : (encK d).length = bytesK d := by
  simp only [encK, List.length_append, fourL, keyL, two2, List.length_cons, List.length_nil, bytesK]
abbrev EncR (size : Int) (d : List Int × List Bs) (H : List Ck) : Value → List Ck → Prop := fun v H' => ∃ a c, v = .tuple #[.slice a (encR size d).length c, .int .i64 (chkK size d)] ∧ H' = ob a c (encR size d) :: H
theorem bencode_s {k : Kd} {size : Int} (hk : RKd w0 H k) (hI : ∀ n ∈ k.ps, I64 n) : FnS Tryz.prog w0 H 31 #[.int .i64 size, .agg k.cells.toArray] (EncR size k.d H) := by
  refine fns_enter Tryz.func31 rfl rfl rfl ?_
  refine s_kn (Kn.kp hk) fun l1 => s_kn (Kn.kk hk) fun l2 => ?_
  simp only [maxLen] at l1 l2
  have hps := hk.ps
  have hks := hk.ks
  refine sx ?_
  refine s_boxA rfl fun b => ?_
  refine sx ?_
  refine s_callV rfl (bcheck_s (k := k) (by exact rkd) hI) ?_
  refine sx ?_
  refine s_ifn rfl (fun t1 => ?_) (fun t1 => ?_)
  · refine sx ?_
    refine s_ret2 rfl rfl rfl ⟨none, 0, ?_, rfl⟩ ?_
    · rw [encR, if_neg t1]; rfl
    · rw [encR, if_neg t1]
      exact Ent.tl Ent.nilS
  have t1' : chkK size k.d = 0 := t1
  obtain ⟨hs, hP, hy, hR, hB⟩ := chkK_0 t1'
  have hb := sizedB_bd hs
  have he : encR size k.d = encK k.d := by rw [encR, if_pos t1']
  have eR : EncR size k.d H = fun v H' => ∃ a c, v = .tuple #[.slice a (encK k.d).length c, .int .i64 0] ∧ H' = ob a c (encK k.d) :: H := by
    funext v H'
    simp only [EncR, he, t1']
  rw [eR]
  have hBk : bytesK k.d = 2 + 4 * k.ps.length + keysB k.keys := rfl
  refine sx ?_
  refine s_callV rfl (bbytes_s (k := k) (by exact rkd) (by omega)) ?_
  refine s_make0 (α := UInt8) rfl rfl (by omega) fun a1 => ?_
  refine sx ?_
  refine s_bsl (two2 k.ps.length) rfl ?_ fun b1 => ?_
  · simp only [two2, bv_ofInt, flat, List.flatMap_cons, List.flatMap_nil, Cel.f]; rfl
  refine s_app (ys := two2 k.ps.length) ?_ (hby := by show (0 + 2) * 1 ≤ _; omega)
  intro a2 c2
  refine sx ?_
  refine s_loop (fun i : Nat × Option Addr × Nat => [(3, .pointer (some ⟨b, 0, none⟩)), (7, .slice i.2.1 (two2 k.ps.length ++ (k.ps.take i.1).flatMap four4).length i.2.2), (34, .slice k.pa k.ps.length k.pc), (35, .int .i64 k.ps.length), (36, .int .i64 i.1)])
    (fun i => ob i.2.1 i.2.2 (two2 k.ps.length ++ (k.ps.take i.1).flatMap four4) :: .hb b 25 k.cells :: H) (fun i => i.1 ≤ k.ps.length) (fun i => k.ps.length - i.1) (0, a2, c2) (Nat.zero_le _) ?_
  rintro ⟨i, a3, c3⟩ hi
  simp only at hi ⊢
  have hl : ∀ j, (two2 k.ps.length ++ (k.ps.take j).flatMap four4).length = 2 + 4 * min j k.ps.length := fun j => by
    rw [List.length_append, fourL, List.length_take]; rfl
  refine sx ?_
  refine s_if rfl (fun t2 => ?_) (fun t2 => ?_)
  · obtain ⟨n, hn⟩ := get_lt k.ps i (by omega)
    have hf := flatS four4 hn
    have h1 := hl i
    refine sx ?_
    refine s_bsl (four4 n) rfl ?_ fun b2 => ?_
    · simp only [four4, bv_ofInt, flat, List.flatMap_cons, List.flatMap_nil, Cel.f]; rfl
    refine s_app (ys := four4 n) ?_ (hby := by rw [h1]; show (_ + 4) * 1 ≤ _; omega)
    intro a4 c4
    rw [List.append_assoc, ← hf]
    refine sx ?_
    exact s_again (i + 1, a4, c4) (by simp only; omega) (by simp only; omega)
  obtain rfl : i = k.ps.length := by omega
  have h0 := hl k.ps.length
  rw [List.take_length, Nat.min_self] at h0
  rw [List.take_length]
  generalize hZ : two2 k.ps.length ++ k.ps.flatMap four4 = Z at h0
  refine sx ?_
  refine s_loop (fun i : Nat × Option Addr × Nat => [(7, .slice i.2.1 (Z ++ (k.keys.take i.1).flatMap keyE).length i.2.2), (56, .slice k.ka k.ks.length k.kc), (57, .int .i64 k.ks.length), (58, .int .i64 i.1)])
    (fun i => ob i.2.1 i.2.2 (Z ++ (k.keys.take i.1).flatMap keyE) :: .hb b 25 k.cells :: H) (fun i => i.1 ≤ k.ks.length) (fun i => k.ks.length - i.1) (0, a3, c3) (Nat.zero_le _) ?_ (h0 := by
      simp only [List.take_zero, List.flatMap_nil, List.append_nil]
      exact ⟨rfl, rfl, rfl, rfl, trivial⟩) (he := by
      simp only [List.take_zero, List.flatMap_nil, List.append_nil]
      exact ent)
  rintro ⟨i, a4, c4⟩ hi
  simp only at hi ⊢
  refine sx ?_
  refine s_if rfl (fun t2 => ?_) (fun t2 => ?_)
  · obtain ⟨p, hp⟩ := get_lt k.ks i (by omega)
    have hpb := hk.el p (List.mem_of_getElem? hp)
    have hf := flatS keyE (Kd.kget hp)
    have h1 := keysB_get (Kd.kget hp)
    have h2 := keysB_take k.keys (i + 1)
    have h3 : (Z ++ (k.keys.take i).flatMap keyE).length = 2 + 4 * k.ps.length + keysB (k.keys.take i) := by rw [List.length_append, h0, keyL]
    refine sx ?_
    refine s_bsl (two2 p.xs.length) rfl ?_ fun b2 => ?_
    · simp only [two2, bv_ofInt, flat, List.flatMap_cons, List.flatMap_nil, Cel.f]; rfl
    refine s_app (ys := two2 p.xs.length) ?_ (hby := by rw [h3]; show (_ + 2) * 1 ≤ _; omega)
    intro a5 c5
    refine sx ?_
    refine s_app (ys := p.xs) ?_ (hby := by rw [List.length_append, h3]; show ((_ + 2) + _) * 1 ≤ _; omega)
    intro a6 c6
    have e : Z ++ (k.keys.take i).flatMap keyE ++ two2 p.xs.length ++ p.xs = Z ++ (k.keys.take (i + 1)).flatMap keyE := by
      rw [hf, keyE]; simp only [List.append_assoc]
    rw [e]
    refine sx ?_
    exact s_again (i + 1, a6, c6) (by simp only; omega) (by simp only; omega)
  obtain rfl : i = k.ks.length := by omega
  have e : Z ++ (k.keys.take k.ks.length).flatMap keyE = encK k.d := by
    rw [List.take_of_length_le (by simp), ← hZ]; rfl
  rw [e]
  refine sx ?_
  exact s_ret2 rfl rfl rfl ⟨a4, c4, rfl, rfl⟩
theorem rtwo_s {a : Option Addr} {c : Nat} {xs : Bs} {n : Int} (h0 : 0 ≤ n ∧ n ≤ 9223372036854775807) (hx : xs.length ≤ 1099511627776) : FnS Tryz.prog w0 (ob a c xs :: H) 70 #[.slice a xs.length c, .int .i64 n] (fun v H' => ∃ a' c', v = .slice a' (xs ++ two2 n).length c' ∧ H' = ob a' c' (xs ++ two2 n) :: H) := by
  refine fns_enter Tryz.func70 rfl rfl rfl ?_
  refine sx ?_
  refine s_bsl (two2 n) rfl ?_ fun b2 => ?_
  · simp only [two2, bv_ofInt, flat, List.flatMap_cons, List.flatMap_nil, Cel.f]; rfl
  refine s_app (ys := two2 n) ?_ (hby := by show (_ + 2) * 1 ≤ _; omega)
  intro a' c'
  refine sx ?_
  exact s_ret1 rfl rfl ⟨a', c', rfl, rfl⟩
theorem ofInt_mod {n : Int} : UInt8.ofInt (n % 65536) = UInt8.ofInt n := by
  simp only [UInt8.ofInt]
  rw [Int.emod_emod_of_dvd n (by decide : (2 ^ 8 : Int) ∣ 65536)]
theorem ofInt_mod2 {n : Int} : UInt8.ofInt (n % 65536 / 256) = UInt8.ofInt (n / 256) := by
  have : (n % 65536 / 256) % 256 = (n / 256) % 256 := by omega
  simp only [UInt8.ofInt]
  have e : (2 ^ 8 : Int) = 256 := rfl
  rw [e, this]
theorem four_two {n : Int} (h : 0 ≤ n) : two2 (n / 65536) ++ two2 (n % 65536) = four4 n := by
  have : n / 65536 / 256 = n / 16777216 := by omega
  simp only [two2, four4, this, ofInt_mod, ofInt_mod2]
  rfl
theorem rfour_s {a : Option Addr} {c : Nat} {xs : Bs} {n : Int} (h0 : 0 ≤ n ∧ n ≤ 9223372036854775807) (hx : xs.length + 2 ≤ 1099511627776) : FnS Tryz.prog w0 (ob a c xs :: H) 71 #[.slice a xs.length c, .int .i64 n] (fun v H' => ∃ a' c', v = .slice a' (xs ++ four4 n).length c' ∧ H' = ob a' c' (xs ++ four4 n) :: H) := by
  refine fns_enter Tryz.func71 rfl rfl rfl ?_
  refine sx ?_
  refine s_call rfl (rtwo_s (by omega) (by omega)) ?_
  rintro _ _ ⟨a1, c1, rfl, rfl⟩
  refine ⟨chk_seq, ?_⟩
  refine sx ?_
  refine s_call rfl (rtwo_s (by omega) (by rw [List.length_append]; show _ + 2 ≤ _; omega)) ?_
  rintro _ _ ⟨a2, c2, rfl, rfl⟩
  rw [List.append_assoc, four_two h0.1]
  refine ⟨chk_seq, ?_⟩
  refine sx ?_
  exact s_ret1 rfl rfl ⟨a2, c2, rfl, rfl⟩
theorem rencode_s {k : Kd} {size : Int} (hk : RKd w0 H k) (hm : k.ps.length * 8 ≤ 140737488355328) : FnS Tryz.prog w0 H 47 #[.int .i64 size, .agg k.cells.toArray] (EncR size k.d H) := by
  refine fns_enter Tryz.func47 rfl rfl rfl ?_
  refine s_kn (Kn.kp hk) fun l1 => s_kn (Kn.kk hk) fun l2 => ?_
  simp only [maxLen] at l1 l2
  have hps := hk.ps
  have hks := hk.ks
  refine sx ?_
  refine s_boxA rfl fun b => ?_
  refine sx ?_
  refine s_callV rfl (rcheck_s (k := k) (by exact rkd) hm) ?_
  refine sx ?_
  refine s_ifn rfl (fun t1 => ?_) (fun t1 => ?_)
  · refine sx ?_
    refine s_ret2 rfl rfl rfl ⟨none, 0, ?_, rfl⟩ ?_
    · rw [encR, if_neg t1]; rfl
    · rw [encR, if_neg t1]
      exact Ent.tl Ent.nilS
  have t1' : chkK size k.d = 0 := t1
  obtain ⟨hs, hP, hy, hR, hB⟩ := chkK_0 t1'
  have hb := sizedB_bd hs
  have he : encR size k.d = encK k.d := by rw [encR, if_pos t1']
  have eR : EncR size k.d H = fun v H' => ∃ a c, v = .tuple #[.slice a (encK k.d).length c, .int .i64 0] ∧ H' = ob a c (encK k.d) :: H := by
    funext v H'
    simp only [EncR, he, t1']
  rw [eR]
  have hBk : bytesK k.d = 2 + 4 * k.ps.length + keysB k.keys := rfl
  refine sx ?_
  refine s_entL (ob none 0 [] :: .hb b 25 k.cells :: H) Ent.nilS ?_
  refine s_call rfl (rtwo_s (xs := []) (n := (k.ps.length : Int)) (by omega) (Nat.zero_le _)) ?_
  rintro _ _ ⟨a2, c2, rfl, rfl⟩
  refine ⟨chk_seq, ?_⟩
  refine sx ?_
  refine s_loop (fun i : Nat × Option Addr × Nat => [(3, .pointer (some ⟨b, 0, none⟩)), (7, .slice i.2.1 (two2 k.ps.length ++ (k.ps.take i.1).flatMap four4).length i.2.2), (8, .int .i64 i.1)])
    (fun i => ob i.2.1 i.2.2 (two2 k.ps.length ++ (k.ps.take i.1).flatMap four4) :: .hb b 25 k.cells :: H) (fun i => i.1 ≤ k.ps.length) (fun i => k.ps.length - i.1) (0, a2, c2) (Nat.zero_le _) ?_
  rintro ⟨i, a3, c3⟩ hi
  simp only at hi ⊢
  have hl : ∀ j, (two2 k.ps.length ++ (k.ps.take j).flatMap four4).length = 2 + 4 * min j k.ps.length := fun j => by
    rw [List.length_append, fourL, List.length_take]; rfl
  refine sx ?_
  refine s_if rfl (fun t2 => ?_) (fun t2 => ?_)
  · obtain ⟨n, hn⟩ := get_lt k.ps i (by omega)
    have hf := flatS four4 hn
    have h1 := hl i
    have hn2 := hP.2.2.2 n (List.mem_of_getElem? hn)
    refine sx ?_
    refine s_call rfl (rfour_s (n := n) (by omega) (by rw [h1]; omega)) ?_
    rintro _ _ ⟨a4, c4, rfl, rfl⟩
    rw [List.append_assoc, ← hf]
    refine ⟨chk_seq, ?_⟩
    refine sx ?_
    exact s_again (i + 1, a4, c4) (by simp only; omega) (by simp only; omega)
  obtain rfl : i = k.ps.length := by omega
  have h0 := hl k.ps.length
  rw [List.take_length, Nat.min_self] at h0
  rw [List.take_length]
  generalize hZ : two2 k.ps.length ++ k.ps.flatMap four4 = Z at h0
  refine sx ?_
  refine s_loop (fun i : Nat × Option Addr × Nat => [(3, .pointer (some ⟨b, 0, none⟩)), (7, .slice i.2.1 (Z ++ (k.keys.take i.1).flatMap keyE).length i.2.2), (9, .int .i64 i.1)])
    (fun i => ob i.2.1 i.2.2 (Z ++ (k.keys.take i.1).flatMap keyE) :: .hb b 25 k.cells :: H) (fun i => i.1 ≤ k.ks.length) (fun i => k.ks.length - i.1) (0, a3, c3) (Nat.zero_le _) ?_ (h0 := by
      simp only [List.take_zero, List.flatMap_nil, List.append_nil]
      exact ⟨rfl, rfl, rfl, trivial⟩) (he := by
      simp only [List.take_zero, List.flatMap_nil, List.append_nil]
      exact ent)
  rintro ⟨i, a4, c4⟩ hi
  simp only at hi ⊢
  refine sx ?_
  refine s_if rfl (fun t2 => ?_) (fun t2 => ?_)
  · obtain ⟨p, hp⟩ := get_lt k.ks i (by omega)
    have hpb := hk.el p (List.mem_of_getElem? hp)
    have hf := flatS keyE (Kd.kget hp)
    have h1 := keysB_get (Kd.kget hp)
    have h2 := keysB_take k.keys (i + 1)
    have h3 : (Z ++ (k.keys.take i).flatMap keyE).length = 2 + 4 * k.ps.length + keysB (k.keys.take i) := by rw [List.length_append, h0, keyL]
    refine sx ?_
    refine s_call rfl (rtwo_s (n := (p.xs.length : Int)) (by omega) (by rw [h3]; omega)) ?_
    rintro _ _ ⟨a5, c5, rfl, rfl⟩
    refine ⟨chk_seq, ?_⟩
    refine sx ?_
    refine s_app (ys := p.xs) ?_ (hby := by rw [List.length_append, h3]; show ((_ + 2) + _) * 1 ≤ _; omega)
    intro a6 c6
    have e : Z ++ (k.keys.take i).flatMap keyE ++ two2 p.xs.length ++ p.xs = Z ++ (k.keys.take (i + 1)).flatMap keyE := by
      rw [hf, keyE]; simp only [List.append_assoc]
    rw [e]
    refine sx ?_
    exact s_again (i + 1, a6, c6) (by simp only; omega) (by simp only; omega)
  obtain rfl : i = k.ks.length := by omega
  have e : Z ++ (k.keys.take k.ks.length).flatMap keyE = encK k.d := by
    rw [List.take_of_length_le (by simp), ← hZ]; rfl
  rw [e]
  refine sx ?_
  exact s_ret2 rfl rfl rfl ⟨a4, c4, rfl, rfl⟩
end Go.Sx
