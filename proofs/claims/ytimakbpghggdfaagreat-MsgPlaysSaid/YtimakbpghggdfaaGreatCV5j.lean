/- Part of a proof: several parts of a walk, one behind the other. -/
import Derived.Test.YtimakbpghggdfaaGreatCV3
namespace Go.Sx
open Go Go.Proofs
set_option maxRecDepth 10000
section
variable {P : Program} {S : World → Prop} {l : List (Nat × Value)} {d : Option Tmp} {ty : TypeId} {pos : String} {af : Array Edge} {g : Option (Nat × Bool)}
theorem y_shlU {x : Operand} {T U : TypeId} {v : Nat} {k' : IntKind} (hx : ev l x = some (.int .u64 (v : Int))) (hv : v < 72057594037927936) :
    Y P S ⟨d, .binOp .shl T x (.const (.int k' 8)) U, ty, pos, af, g⟩ l (.int .u64 ((v * 256 : Nat) : Int)) := .mk fun w _ ρ hρ => by
  have h2 := hρ (.const (.int k' 8)) _ rfl
  have h3 : IntKind.u64.wrap ((v : Int) * 256) = ((v * 256 : Nat) : Int) := by
    have := wrap_u64 (n := v * 256) (by omega)
    rw [← this]; rfl
  simp [execOp, hρ _ _ hx, h2, eqGuard, binOp, Op.shift, IntKind.bits, h3]
theorem y_orU {x y : Operand} {T U : TypeId} {a c : Nat} (hx : ev l x = some (.int .u64 ((a * 256 : Nat) : Int))) (hy : ev l y = some (.int .u64 (c : Int))) (ha : a < 72057594037927936) (hc : c < 256) :
    Y P S ⟨d, .binOp .or T x y U, ty, pos, af, g⟩ l (.int .u64 ((a * 256 + c : Nat) : Int)) := .mk fun w _ ρ hρ => by
  have h3 : Go.bits .or .u64 ((a * 256 : Nat) : Int) (c : Int) = ((a * 256 : Nat) : Int) + c := bits_join .u64 64 (by decide) (fun m h0 h1 => by
    obtain ⟨n, rfl⟩ := Int.eq_ofNat_of_zero_le h0
    exact wrap_u64 (by omega)) 8 _ _ (by omega) (by omega) (by omega) (by omega) (by omega) (by omega)
  have h4 : (((a * 256 + c : Nat) : Int)) = ((a * 256 : Nat) : Int) + c := by omega
  rw [h4, ← h3]
  simp [execOp, hρ _ _ hx, hρ _ _ hy, eqGuard, binOp, Op.intBits, Go.bits]
theorem y_subU {x y : Operand} {T U : TypeId} {a c : Nat} (hx : ev l x = some (.int .u64 (a : Int))) (hy : ev l y = some (.int .u64 (c : Int))) (h : c ≤ a ∧ a < 18446744073709551616) :
    Y P S ⟨d, .binOp .sub T x y U, ty, pos, af, g⟩ l (.int .u64 ((a - c : Nat) : Int)) := .mk fun w _ ρ hρ => by
  have h3 : IntKind.u64.wrap ((a : Int) - c) = ((a - c : Nat) : Int) := by
    have := wrap_u64 (n := a - c) (by omega)
    rw [← this]
    congr 1
    omega
  simp [execOp, hρ _ _ hx, hρ _ _ hy, go_sem, Op.intArith, h3]
theorem y_addU {x y : Operand} {T U : TypeId} {a c : Nat} (hx : ev l x = some (.int .u64 (a : Int))) (hy : ev l y = some (.int .u64 (c : Int))) (h : a + c < 18446744073709551616) :
    Y P S ⟨d, .binOp .add T x y U, ty, pos, af, g⟩ l (.int .u64 ((a + c : Nat) : Int)) := .mk fun w _ ρ hρ => by
  have h3 : IntKind.u64.wrap ((a : Int) + c) = ((a + c : Nat) : Int) := by
    have := wrap_u64 (n := a + c) h
    rw [← this]
    congr 1
  simp [execOp, hρ _ _ hx, hρ _ _ hy, go_sem, Op.intArith, h3]
end
variable {w0 : World} {H : List Ck}
theorem takeS_none {n : Nat} {s : SrcB} (h : s.2 = true ∨ s.1.length < n) : takeS n s = ([], (s.1, true)) := if_pos h
theorem takeS_some {n : Nat} {s : SrcB} (h1 : s.2 = false) (h : n ≤ s.1.length) : takeS n s = (s.1.take n, (s.1.drop n, false)) := if_neg (by rintro (h2 | h2); rw [h1] at h2; cases h2; omega)
theorem takeS_len (n : Nat) (s : SrcB) : (takeS n s).1.length ≤ n := by
  unfold takeS
  split
  · simp
  · simp only [List.length_take]; omega
theorem takeS_le (n : Nat) (s : SrcB) : (takeS n s).1.length + (takeS n s).2.1.length ≤ s.1.length := by
  unfold takeS
  split
  · simp
  · simp only [List.length_take, List.length_drop]; omega
theorem beN_bd (xs : Bs) {k : Nat} (h : xs.length ≤ k) : beN xs < 256 ^ k := Nat.lt_of_lt_of_le (beN_lt xs.length xs rfl) (Nat.pow_le_pow_right (by decide) h)
theorem numS_lt (k : Nat) (s : SrcB) : (numS k s).1 < 256 ^ k := beN_bd _ (takeS_len k s)
theorem beN_step {xs : Bs} {i : Nat} {x : UInt8} (h : xs[i]? = some x) : beN (xs.take (i + 1)) = beN (xs.take i) * 256 + x.toNat := by rw [snocT h, beN_snoc]
abbrev TakR (T S n : Nat) (s : SrcB) (H0 H : List Ck) (w0 : World) : Value → List Ck → Prop := fun v H' => ∃ ra a2 c2, v = .slice ra (takeS n s).1.length (takeS n s).1.length ∧ RBy w0 H0 a2 c2 (takeS n s).2.1 ∧ H' = ob ra (takeS n s).1.length (takeS n s).1 :: .hb S T [.slice a2 (takeS n s).2.1.length c2, .bool (takeS n s).2.2] :: H
theorem mtake_s {S n c : Nat} {a : Option Addr} {s : SrcB} {H0 : List Ck} (hx0 : RBy w0 H0 a c s.1) (he : Ent H H0) (hn : n ≤ 9223372036854775807) (hl : s.1.length ≤ 140737488355328) :
    FnS Tryz.prog w0 (.hb S 122 [.slice a s.1.length c, .bool s.2] :: H) 75 #[.pointer (some ⟨S, 0, none⟩), .int .i64 (n : Int)] (TakR 122 S n s H0 H w0) := by
  obtain ⟨xs, bad⟩ := s
  simp only at hx0 hl ⊢
  have hx := hx0.ent he
  refine fns_enter Tryz.func75 rfl rfl rfl ?_
  refine s_kn (Kn.by hx).tl fun l1 => ?_
  simp only [maxLen] at l1
  refine sx ?_
  cases bad
  · refine sx ?_
    refine s_if rfl (fun t1 => ?_) (fun t1 => ?_)
    · have e := takeS_none (n := n) (s := (xs, false)) (.inr (by simp only; omega))
      refine sx ?_
      refine s_ret1 (H' := ob none 0 [] :: .hb S 122 [.slice a xs.length c, .bool true] :: H) rfl rfl ⟨none, a, c, by rw [e]; rfl, by rw [e]; exact hx0, by rw [e]; rfl⟩ Ent.nilS
    · have e := takeS_some (n := n) (s := (xs, false)) rfl (by simp only; omega)
      have hlt : (xs.take n).length = n := by rw [List.length_take]; omega
      have hld : (xs.drop n).length = xs.length - n := List.length_drop
      refine sx ?_
      refine s_rw (t := 27) (v' := .slice a (xs.take n).length c) rfl (by rw [hlt]) ?_
      refine s_call rfl (mcopied_s (xs := xs.take n) ((hx.take (by omega)).tl) (by omega)) ?_
      rintro _ _ ⟨a5, rfl, rfl⟩
      refine ⟨chk_seq, ?_⟩
      refine sx ?_
      refine s_ret1 rfl rfl ⟨a5, Sx.sl a c n 1, c - n, by rw [e], by rw [e]; exact hx0.drop (by omega), by rw [e]⟩ ?_
      refine Ent.head ?_
      simp only [hld]
      exact Ent.refl
  · have e := takeS_none (n := n) (s := (xs, true)) (.inl rfl)
    refine sx ?_
    refine s_ret1 (H' := ob none 0 [] :: .hb S 122 [.slice a xs.length c, .bool true] :: H) rfl rfl ⟨none, a, c, by rw [e]; rfl, by rw [e]; exact hx0, by rw [e]; rfl⟩ Ent.nilS
abbrev NmsR (T S k : Nat) (s : SrcB) (H0 H : List Ck) (w0 : World) : Value → List Ck → Prop := fun v H' => ∃ a2 c2, v = .int .u64 ((numS k s).1 : Int) ∧ RBy w0 H0 a2 c2 (numS k s).2.1 ∧ H' = .hb S T [.slice a2 (numS k s).2.1.length c2, .bool (numS k s).2.2] :: H
theorem mnums_s {S k c : Nat} {a : Option Addr} {s : SrcB} {H0 : List Ck} (hx : RBy w0 H0 a c s.1) (he : Ent H H0) (hk : k ≤ 8) (hl : s.1.length ≤ 140737488355328) :
    FnS Tryz.prog w0 (.hb S 122 [.slice a s.1.length c, .bool s.2] :: H) 74 #[.pointer (some ⟨S, 0, none⟩), .int .i64 (k : Int)] (NmsR 122 S k s H0 H w0) := by
  refine fns_enter Tryz.func74 rfl rfl rfl ?_
  refine sx ?_
  refine s_call rfl (mtake_s (n := k) hx he (by omega) hl) ?_
  rintro _ _ ⟨ra, a2, c2, rfl, hr, rfl⟩
  refine ⟨chk_seq, ?_⟩
  have hlen := takeS_len k s
  have e : numS k s = (beN (takeS k s).1, (takeS k s).2) := rfl
  generalize takeS k s = t at hlen hr e ⊢
  obtain ⟨x, ys, bd⟩ := t
  simp only at hlen hr e ⊢
  refine sx ?_
  refine s_loop (fun i : Nat => [(5, .int .u64 (beN (x.take i) : Int)), (10, .slice ra x.length x.length), (11, .int .i64 x.length), (12, .int .i64 i)]) (fun _ => ob ra x.length x :: .hb S 122 [.slice a2 ys.length c2, .bool bd] :: H) (fun i => i ≤ x.length) (fun i => x.length - i) 0 (Nat.zero_le _) ?_
  intro i hi
  refine sx ?_
  refine s_if rfl (fun t1 => ?_) (fun t1 => ?_)
  · obtain ⟨u, hu⟩ := get_lt x i (by omega)
    have h1 := beN_step hu
    have h2 := beN_bd (x.take i) (k := 7) (by rw [List.length_take]; omega)
    have h3 : x.getD i 0 = u := by simp [List.getD, hu]
    have h4 := u.toNat_lt
    refine sx ?_
    refine s_yS rfl rfl rfl (y_shlU rfl (by omega)) ?_
    refine sx ?_
    refine s_rw (t := 19) (v' := .int .u64 ((u.toNat : Nat) : Int)) rfl (by rw [h3, wrap_u64 (by omega)]) ?_
    refine s_yS rfl rfl rfl (y_orU rfl rfl (by omega) (by omega)) ?_
    refine sx ?_
    exact s_again (i + 1) (by omega) (by omega)
  · obtain rfl : i = x.length := by omega
    rw [List.take_length]
    refine sx ?_
    refine s_ret1 rfl rfl ⟨a2, c2, by rw [e], by rw [e]; exact hr, by rw [e]⟩ (Ent.tl Ent.refl)
theorem numS_le (k : Nat) (s : SrcB) : (numS k s).2.1.length ≤ s.1.length := by
  have := takeS_le k s
  show (takeS k s).2.1.length ≤ s.1.length
  omega
/-- All that Decode reads. -/
def srcM (xs : Bs) : List MD × SrcB := loopS (numS 4 (xs, false)).1 [] (numS 4 (xs, false)).2
structure DcI where
  n : Nat
  a7 : Option Addr
  c7 : Nat
  ms : List Mg
  a : Option Addr
  c : Nat
  s : SrcB
end Go.Sx
namespace Go.Sx
open Go Go.Proofs
set_option maxRecDepth 10000
variable {w0 : World} {H : List Ck}
def decM (size : Int) (xs : Bs) : Option (List MD) := if sizedB size = true ∧ (srcM xs).2.2 = false ∧ (srcM xs).2.1.length = 0 ∧ chkM size (srcM xs).1 = 0 then some (srcM xs).1 else none
def decME (size : Int) (xs : Bs) : Int := if sizedB size = false then 1 else if (decM size xs).isSome then 0 else 73
abbrev DcmR (size : Int) (xs : Bs) (H : List Ck) : Value → List Ck → Prop := fun v H' => ∃ a c ms, v = .tuple #[.slice a (ms : List Mg).length c, .int .i64 (decME size xs)] ∧ ms.map Mg.d = (decM size xs).getD [] ∧ H' = ol 35 a c ms :: stars oM ms :: H
theorem nilM : Ent H (ol 35 none 0 ([] : List Mg) :: stars oM ([] : List Mg) :: H) := stars_nil.trans Ent.nilS
set_option maxHeartbeats 4000000 in
theorem mdecode_s {size : Int} {a : Option Addr} {c : Nat} {xs : Bs} (hx : RBy w0 H a c xs) (hl : xs.length ≤ 140737488355328) : FnS Tryz.prog w0 H 32 #[.int .i64 size, .slice a xs.length c] (DcmR size xs H) := by
  refine fns_enter Tryz.func32 rfl rfl rfl ?_
  refine sx ?_
  refine s_callV rfl msized_s ?_
  cases hs : sizedB size
  · have e1 : decME size xs = 1 := by rw [decME, if_pos hs]
    have e2 : decM size xs = none := by rw [decM, if_neg (by rw [hs]; simp)]
    refine sx ?_
    refine s_ret2 rfl rfl rfl ⟨none, 0, [], by rw [e1]; rfl, by rw [e2]; rfl, rfl⟩ nilM
  have e1 : ∀ e : Int, decM size xs = none → decME size xs = 73 := fun _ h => by rw [decME, if_neg (by rw [hs]; decide), h]; rfl
  refine sx ?_
  refine s_boxA (cs := [.slice a xs.length c, .bool false]) rfl fun S => ?_
  refine sx ?_
  refine s_call rfl (mnums_s (s := (xs, false)) (k := 4) hx Ent.refl (by omega) hl) ?_
  rintro _ _ ⟨a2, c2, rfl, r2, rfl⟩
  have hsrc : srcM xs = loopS (numS 4 (xs, false)).1 [] (numS 4 (xs, false)).2 := rfl
  have l0 := numS_le 4 (xs, false)
  have b0 := numS_lt 4 (xs, false)
  generalize numS 4 (xs, false) = p0 at r2 hsrc l0 b0 ⊢
  obtain ⟨N, s0⟩ := p0
  simp only at r2 hsrc l0 b0 ⊢
  refine ⟨chk_seq, ?_⟩
  refine sx ?_
  refine s_cutB (ι := DcI) (fun m => [(0, .int .i64 size), (6, .pointer (some ⟨S, 0, none⟩)), (7, .slice m.a7 m.ms.length m.c7)]) (fun m => .hb S 122 [.slice m.a m.s.1.length m.c, .bool m.s.2] :: ol 35 m.a7 m.c7 m.ms :: stars oM m.ms :: H) (fun m => srcM xs = (m.ms.map Mg.d, m.s) ∧ (∀ u ∈ m.ms, u.st < 18446744073709551616) ∧ m.ms.length ≤ 4294967296) ?_ ?_
  · refine s_loop (fun m : DcI => [(0, .int .i64 size), (6, .pointer (some ⟨S, 0, none⟩)), (7, .slice m.a7 m.ms.length m.c7), (8, .int .u64 (m.n : Int))]) (fun m => .hb S 122 [.slice m.a m.s.1.length m.c, .bool m.s.2] :: ol 35 m.a7 m.c7 m.ms :: stars oM m.ms :: H)
      (fun m => srcM xs = loopS m.n (m.ms.map Mg.d) m.s ∧ m.n + m.ms.length ≤ 4294967296 ∧ RBy w0 H m.a m.c m.s.1 ∧ m.s.1.length ≤ 140737488355328 ∧ ∀ u ∈ m.ms, u.st < 18446744073709551616) (fun m => m.n) ⟨N, none, 0, [], a2, c2, s0⟩ ⟨hsrc, by simp only [List.length_nil]; omega, r2, by simp only; omega, fun u h => by cases h⟩ ?_ (he := Ent.head nilM)
    rintro ⟨n, a7, c7, ms, a1, c1, s⟩ ⟨he, hn, hr, hsl, hst⟩
    simp only at he hn hr hsl hst ⊢
    refine sx ?_
    refine s_lif rfl (fun t1 => ?_) (fun t1 => ?_)
    rotate_left
    · obtain rfl : n = 0 := by omega
      refine sx ?_
      exact s_mid ⟨0, a7, c7, ms, a1, c1, s⟩ ⟨he, hst, by simp only; omega⟩ (he := Ent.refl)
    obtain ⟨k, rfl⟩ : ∃ k, n = k + 1 := ⟨n - 1, by omega⟩
    obtain ⟨ys, bad⟩ := s
    simp only at hr hsl ⊢
    rw [loopS] at he
    cases bad
    rotate_left
    · rw [if_pos rfl] at he
      refine sx ?_
      exact s_mid ⟨0, a7, c7, ms, a1, c1, (ys, true)⟩ ⟨he, hst, by simp only; omega⟩ (he := Ent.refl)
    rw [if_neg (by simp)] at he
    refine sx ?_
    refine s_entL (.hb S 122 [.slice a1 ys.length c1, .bool false] :: ol 35 a7 c7 ms :: stars oM ms :: H) (by first | exact entq | exact ent) ?_
    refine s_call rfl (mnums_s (s := (ys, false)) (k := 8) hr (by first | exact entq | exact ent) (by omega) (by omega)) ?_
    rintro _ _ ⟨a3, c3, rfl, ra3, rfl⟩
    have ls1 := numS_le 8 (ys, false)
    have bs1 := numS_lt 8 (ys, false)
    generalize hs1 : numS 8 (ys, false) = ps1 at ra3 ls1 bs1 ⊢
    obtain ⟨v1, s1⟩ := ps1
    simp only at ra3 ls1 bs1 ⊢
    refine ⟨chk_seq, ?_⟩
    refine sx ?_
    refine s_alloc fun b9 => ?_
    refine sx ?_
    refine s_entL (.hb S 122 [.slice a3 s1.1.length c3, .bool s1.2] :: .hb b9 35 [.int .u64 (v1 : Int), .int .i64 0, .slice none 0 0, .slice none 0 0, .slice none 0 0] :: ol 35 a7 c7 ms :: stars oM ms :: H) (by first | exact entq | exact ent) ?_
    refine s_call rfl (mnums_s (s := s1) (k := 1) ra3 (by first | exact entq | exact ent) (by omega) (by omega)) ?_
    rintro _ _ ⟨a4, c4, rfl, ra4, rfl⟩
    have ls2 := numS_le 1 s1
    have bs2 := numS_lt 1 s1
    generalize hs2 : numS 1 s1 = ps2 at ra4 ls2 bs2 ⊢
    obtain ⟨v2, s2⟩ := ps2
    simp only at ra4 ls2 bs2 ⊢
    refine ⟨chk_seq, ?_⟩
    refine sx ?_
    refine s_entL (.hb S 122 [.slice a4 s2.1.length c4, .bool s2.2] :: .hb b9 35 [.int .u64 (v1 : Int), .int .i64 (v2 : Int), .slice none 0 0, .slice none 0 0, .slice none 0 0] :: ol 35 a7 c7 ms :: stars oM ms :: H) (by first | exact entq | exact ent) ?_
    refine s_call rfl (mnums_s (s := s2) (k := 2) ra4 (by first | exact entq | exact ent) (by omega) (by omega)) ?_
    rintro _ _ ⟨a5, c5, rfl, ra5, rfl⟩
    have ls3 := numS_le 2 s2
    have bs3 := numS_lt 2 s2
    generalize hs3 : numS 2 s2 = ps3 at ra5 ls3 bs3 ⊢
    obtain ⟨v3, s3⟩ := ps3
    simp only at ra5 ls3 bs3 ⊢
    refine ⟨chk_seq, ?_⟩
    refine sx ?_
    refine s_entL (.hb S 122 [.slice a5 s3.1.length c5, .bool s3.2] :: .hb b9 35 [.int .u64 (v1 : Int), .int .i64 (v2 : Int), .slice none 0 0, .slice none 0 0, .slice none 0 0] :: ol 35 a7 c7 ms :: stars oM ms :: H) (by first | exact entq | exact ent) ?_
    refine s_call rfl (mnums_s (s := s3) (k := 2) ra5 (by first | exact entq | exact ent) (by omega) (by omega)) ?_
    rintro _ _ ⟨a6, c6, rfl, ra6, rfl⟩
    have ls4 := numS_le 2 s3
    have bs4 := numS_lt 2 s3
    generalize hs4 : numS 2 s3 = ps4 at ra6 ls4 bs4 ⊢
    obtain ⟨v4, s4⟩ := ps4
    simp only at ra6 ls4 bs4 ⊢
    refine ⟨chk_seq, ?_⟩
    refine sx ?_
    refine s_entL (.hb S 122 [.slice a6 s4.1.length c6, .bool s4.2] :: .hb b9 35 [.int .u64 (v1 : Int), .int .i64 (v2 : Int), .slice none 0 0, .slice none 0 0, .slice none 0 0] :: ol 35 a7 c7 ms :: stars oM ms :: H) (by first | exact entq | exact ent) ?_
    refine s_call rfl (mtake_s (s := s4) (n := v3) ra6 (by first | exact entq | exact ent) (by omega) (by omega)) ?_
    rintro _ _ ⟨rx, a11, c11, rfl, ra11, rfl⟩
    have ls5 := takeS_le v3 s4
    generalize hs5 : takeS v3 s4 = ps5 at ra11 ls5 ⊢
    obtain ⟨x, s5⟩ := ps5
    simp only at ra11 ls5 ⊢
    refine ⟨chk_seq, ?_⟩
    refine sx ?_
    refine s_entL (.hb S 122 [.slice a11 s5.1.length c11, .bool s5.2] :: ob rx x.length x :: .hb b9 35 [.int .u64 (v1 : Int), .int .i64 (v2 : Int), .slice rx x.length x.length, .slice none 0 0, .slice none 0 0] :: ol 35 a7 c7 ms :: stars oM ms :: H) (by first | exact entq | exact ent) ?_
    refine s_call rfl (mtake_s (s := s5) (n := v4) ra11 (by first | exact entq | exact ent) (by omega) (by omega)) ?_
    rintro _ _ ⟨ry, a12, c12, rfl, ra12, rfl⟩
    have ls6 := takeS_le v4 s5
    generalize hs6 : takeS v4 s5 = ps6 at ra12 ls6 ⊢
    obtain ⟨y, s6⟩ := ps6
    simp only at ra12 ls6 ⊢
    refine ⟨chk_seq, ?_⟩
    refine sx ?_
    refine s_if rfl (fun t3 => ?_) (fun t3 => ?_)
    · refine sx ?_
      have ho : oneS (ys, false) = (Mg.d ⟨(v1 : Int), (v2 : Int), rx, x.length, x, ry, y.length, y, none, 0, []⟩, s6) := by simp only [oneS, hs1, hs2, hs3, hs4, hs5, hs6, t3, if_true, if_false]
      rw [ho] at he
      refine sx ?_
      refine s_bsl [(⟨(v1 : Int), (v2 : Int), rx, x.length, x, ry, y.length, y, none, 0, []⟩ : Mg)] rfl rfl fun b61 => ?_
      refine sx ?_
      refine s_app (xs := ms) ?_ (hby := by simp only [List.length_cons, List.length_nil]; omega)
      intro a8 c8
      refine sx ?_
      refine s_yS rfl rfl rfl (y_subU (a := k + 1) (c := 1) rfl rfl (by omega)) ?_
      refine sx ?_
      refine s_again ⟨k, a8, c8, ms ++ [⟨(v1 : Int), (v2 : Int), rx, x.length, x, ry, y.length, y, none, 0, []⟩], a12, c12, s6⟩ ⟨by rw [List.map_append]; exact he, by simp only [List.length_append, List.length_cons, List.length_nil]; omega, ra12, by simp only; omega, ?_⟩ (by simp only; omega) (he := ?_)
      · intro u hu
        rcases List.mem_append.1 hu with h | h
        · exact hst u h
        · rw [List.mem_singleton.1 h]; simp only; omega
      · refine Ent.cons (by exact rm) (Ent.cons (by exact rm) ?_)
        refine Ent.trans (H' := oM ⟨(v1 : Int), (v2 : Int), rx, x.length, x, ry, y.length, y, none, 0, []⟩ ++ stars oM ms :: H) ?_ stars_snoc
        exact Ent.cons (by exact rm) (Ent.cons (by exact rm) (Ent.addNil (by exact ent)))
    · refine sx ?_
      have ho : oneS (ys, false) = (Mg.d ⟨(v1 : Int), (v2 : Int), rx, x.length, x, none, 0, [], ry, y.length, y⟩, s6) := by simp only [oneS, hs1, hs2, hs3, hs4, hs5, hs6, t3, if_true, if_false]
      rw [ho] at he
      refine sx ?_
      refine s_bsl [(⟨(v1 : Int), (v2 : Int), rx, x.length, x, none, 0, [], ry, y.length, y⟩ : Mg)] rfl rfl fun b61 => ?_
      refine sx ?_
      refine s_app (xs := ms) ?_ (hby := by simp only [List.length_cons, List.length_nil]; omega)
      intro a8 c8
      refine sx ?_
      refine s_yS rfl rfl rfl (y_subU (a := k + 1) (c := 1) rfl rfl (by omega)) ?_
      refine sx ?_
      refine s_again ⟨k, a8, c8, ms ++ [⟨(v1 : Int), (v2 : Int), rx, x.length, x, none, 0, [], ry, y.length, y⟩], a12, c12, s6⟩ ⟨by rw [List.map_append]; exact he, by simp only [List.length_append, List.length_cons, List.length_nil]; omega, ra12, by simp only; omega, ?_⟩ (by simp only; omega) (he := ?_)
      · intro u hu
        rcases List.mem_append.1 hu with h | h
        · exact hst u h
        · rw [List.mem_singleton.1 h]; simp only; omega
      · refine Ent.cons (by exact rm) (Ent.cons (by exact rm) ?_)
        refine Ent.trans (H' := oM ⟨(v1 : Int), (v2 : Int), rx, x.length, x, none, 0, [], ry, y.length, y⟩ ++ stars oM ms :: H) ?_ stars_snoc
        exact Ent.cons (by exact rm) (Ent.addNil (Ent.cons (by exact rm) (by exact ent)))
  rintro ⟨n, a7, c7, ms, a1, c1, ys, bad⟩ ⟨hsr, hst, hml⟩
  simp only at hsr hst hml ⊢
  have hb : bytesM (ms.map Mg.d) = bytesM (ms.map Mg.d) := rfl
  have hd : decM size xs = if bad = false ∧ ys.length = 0 ∧ chkM size (ms.map Mg.d) = 0 then some (ms.map Mg.d) else none := by
    rw [decM, hsr]
    simp only [hs, true_and]
  have hbad : ¬ (bad = false ∧ ys.length = 0 ∧ chkM size (ms.map Mg.d) = 0) → DcmR size xs H (.tuple #[.slice none 0 0, .int .i64 73]) (ol 35 none 0 ([] : List Mg) :: stars oM ([] : List Mg) :: H) := fun h => by
    rw [if_neg h] at hd
    exact ⟨none, 0, [], by rw [e1 0 hd]; rfl, by rw [hd]; rfl, rfl⟩
  have hnil : Ent (.hb S 122 [.slice a1 ys.length c1, .bool bad] :: ol 35 a7 c7 ms :: stars oM ms :: H) (ol 35 none 0 ([] : List Mg) :: stars oM ([] : List Mg) :: H) := Ent.tl (Ent.tl (Ent.tl nilM))
  have hrs : RMs w0 (.hb S 122 [.slice a1 ys.length c1, .bool bad] :: ol 35 a7 c7 ms :: stars oM ms :: H) a7 c7 ms := ⟨RSl.hd.tl, fun m hm => ((RMg.oM (H := [])).ent (by rw [List.append_nil]; exact stars_mem hm)).tl.tl⟩
  refine sx ?_
  cases bad
  rotate_left
  · refine sx ?_
    exact s_ret2 rfl rfl rfl (hbad (by simp)) hnil
  refine sx ?_
  refine s_lif rfl (fun t1 => ?_) (fun t1 => ?_)
  · refine sx ?_
    exact s_ret2 rfl rfl rfl (hbad (by omega)) hnil
  refine sx ?_
  refine s_callV rfl (mcheck_s hrs) ?_
  refine sx ?_
  refine s_ifn rfl (fun t2 => ?_) (fun t2 => ?_)
  · refine sx ?_
    exact s_ret2 rfl rfl rfl (hbad (fun h => t2 h.2.2)) hnil
  rw [if_pos ⟨rfl, by omega, t2⟩] at hd
  refine sx ?_
  refine s_ret2 rfl rfl rfl ⟨a7, c7, ms, ?_, by rw [hd]; rfl, rfl⟩ (Ent.tl Ent.refl)
  rw [decME, if_neg (by rw [hs]; decide), hd]
  rfl
end Go.Sx

