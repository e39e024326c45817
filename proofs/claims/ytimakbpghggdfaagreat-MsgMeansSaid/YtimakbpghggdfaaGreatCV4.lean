/- Bytes that are taken from the front, by the program. -/
import Derived.Test.YtimakbpghggdfaaGreatCV3
namespace Go.Sx
open Go Go.Proofs
set_option maxRecDepth 10000
section
variable {P : Program} {S : World → Prop} {l : List (Nat × Value)} {d : Option Tmp} {ty : TypeId} {pos : String} {af : Array Edge} {g : Option (Nat × Bool)}
theorem y_shlU {x : Operand} {T U : TypeId} {v : Nat} {k' : IntKind} (hx : ev l x = some (.int .u64 (v : Int))) (hv : v < 72057594037927936) :
    Y P S ⟨d, .binOp .shl T x (.const (.int k' 8)) U, ty, pos, af, g⟩ l (.int .u64 ((v * 256 : Nat) : Int)) := .mk fun w _ ρ hρ => by
  have h2 := hρ (.const (.int k' 8)) _ rfl
  have h3 : IntKind.u64.wrap ((v : Int) * 256) = ((v * 256 : Nat) : Int) := by
    have := wrap_u64 (n := v * 256) (by omega)
    rw [← this]; rfl
  simp [execOp, hρ _ _ hx, h2, eqGuard, binOp, Op.shift, IntKind.bits, h3]
theorem y_orU {x y : Operand} {T U : TypeId} {a c : Nat} (hx : ev l x = some (.int .u64 ((a * 256 : Nat) : Int))) (hy : ev l y = some (.int .u64 (c : Int))) (ha : a < 72057594037927936) (hc : c < 256) :
    Y P S ⟨d, .binOp .or T x y U, ty, pos, af, g⟩ l (.int .u64 ((a * 256 + c : Nat) : Int)) := .mk fun w _ ρ hρ => by
  have h3 : Go.bits .or .u64 ((a * 256 : Nat) : Int) (c : Int) = ((a * 256 : Nat) : Int) + c := bits_join .u64 64 (by decide) (fun m h0 h1 => by
    obtain ⟨n, rfl⟩ := Int.eq_ofNat_of_zero_le h0
    exact wrap_u64 (by omega)) 8 _ _ (by omega) (by omega) (by omega) (by omega) (by omega) (by omega)
  have h4 : (((a * 256 + c : Nat) : Int)) = ((a * 256 : Nat) : Int) + c := by omega
  rw [h4, ← h3]
  simp [execOp, hρ _ _ hx, hρ _ _ hy, eqGuard, binOp, Op.intBits, Go.bits]
theorem y_subU {x y : Operand} {T U : TypeId} {a c : Nat} (hx : ev l x = some (.int .u64 (a : Int))) (hy : ev l y = some (.int .u64 (c : Int))) (h : c ≤ a ∧ a < 18446744073709551616) :
    Y P S ⟨d, .binOp .sub T x y U, ty, pos, af, g⟩ l (.int .u64 ((a - c : Nat) : Int)) := .mk fun w _ ρ hρ => by
  have h3 : IntKind.u64.wrap ((a : Int) - c) = ((a - c : Nat) : Int) := by
    have := wrap_u64 (n := a - c) (by omega)
    rw [← this]
    congr 1
    omega
  simp [execOp, hρ _ _ hx, hρ _ _ hy, go_sem, Op.intArith, h3]
theorem y_addU {x y : Operand} {T U : TypeId} {a c : Nat} (hx : ev l x = some (.int .u64 (a : Int))) (hy : ev l y = some (.int .u64 (c : Int))) (h : a + c < 18446744073709551616) :
    Y P S ⟨d, .binOp .add T x y U, ty, pos, af, g⟩ l (.int .u64 ((a + c : Nat) : Int)) := .mk fun w _ ρ hρ => by
  have h3 : IntKind.u64.wrap ((a : Int) + c) = ((a + c : Nat) : Int) := by
    have := wrap_u64 (n := a + c) h
    rw [← this]
    congr 1
  simp [execOp, hρ _ _ hx, hρ _ _ hy, go_sem, Op.intArith, h3]
end
variable {w0 : World} {H : List Ck}
theorem takeS_none {n : Nat} {s : SrcB} (h : s.2 = true ∨ s.1.length < n) : takeS n s = ([], (s.1, true)) := if_pos h
theorem takeS_some {n : Nat} {s : SrcB} (h1 : s.2 = false) (h : n ≤ s.1.length) : takeS n s = (s.1.take n, (s.1.drop n, false)) := if_neg (by rintro (h2 | h2); rw [h1] at h2; cases h2; omega)
theorem takeS_len (n : Nat) (s : SrcB) : (takeS n s).1.length ≤ n := by
  unfold takeS
  split
  · simp
  · simp only [List.length_take]; omega
theorem takeS_le (n : Nat) (s : SrcB) : (takeS n s).1.length + (takeS n s).2.1.length ≤ s.1.length := by
  unfold takeS
  split
  · simp
  · simp only [List.length_take, List.length_drop]; omega
theorem beN_bd (xs : Bs) {k : Nat} (h : xs.length ≤ k) : beN xs < 256 ^ k := Nat.lt_of_lt_of_le (beN_lt xs.length xs rfl) (Nat.pow_le_pow_right (by decide) h)
theorem numS_lt (k : Nat) (s : SrcB) : (numS k s).1 < 256 ^ k := beN_bd _ (takeS_len k s)
theorem beN_step {xs : Bs} {i : Nat} {x : UInt8} (h : xs[i]? = some x) : beN (xs.take (i + 1)) = beN (xs.take i) * 256 + x.toNat := by rw [snocT h, beN_snoc]
abbrev TakR (T S n : Nat) (s : SrcB) (H0 H : List Ck) (w0 : World) : Value → List Ck → Prop := fun v H' => ∃ ra a2 c2, v = .slice ra (takeS n s).1.length (takeS n s).1.length ∧ RBy w0 H0 a2 c2 (takeS n s).2.1 ∧ H' = ob ra (takeS n s).1.length (takeS n s).1 :: .hb S T [.slice a2 (takeS n s).2.1.length c2, .bool (takeS n s).2.2] :: H
theorem mtake_s {S n c : Nat} {a : Option Addr} {s : SrcB} {H0 : List Ck} (hx0 : RBy w0 H0 a c s.1) (he : Ent H H0) (hn : n ≤ 9223372036854775807) (hl : s.1.length ≤ 140737488355328) :
    FnS Tryz.prog w0 (.hb S 122 [.slice a s.1.length c, .bool s.2] :: H) 75 #[.pointer (some ⟨S, 0, none⟩), .int .i64 (n : Int)] (TakR 122 S n s H0 H w0) := by
  obtain ⟨xs, bad⟩ := s
  simp only at hx0 hl ⊢
  have hx := hx0.ent he
  refine fns_enter Tryz.func75 rfl rfl rfl ?_
  refine s_kn (Kn.by hx).tl fun l1 => ?_
  simp only [maxLen] at l1
  refine sx ?_
  cases bad
  · refine sx ?_
    refine s_if rfl (fun t1 => ?_) (fun t1 => ?_)
    · have e := takeS_none (n := n) (s := (xs, false)) (.inr (by simp only; omega))
      refine sx ?_
      refine s_ret1 (H' := ob none 0 [] :: .hb S 122 [.slice a xs.length c, .bool true] :: H) rfl rfl ⟨none, a, c, by rw [e]; rfl, by rw [e]; exact hx0, by rw [e]; rfl⟩ Ent.nilS
    · have e := takeS_some (n := n) (s := (xs, false)) rfl (by simp only; omega)
      have hlt : (xs.take n).length = n := by rw [List.length_take]; omega
      have hld : (xs.drop n).length = xs.length - n := List.length_drop
      refine sx ?_
      refine s_rw (t := 27) (v' := .slice a (xs.take n).length c) rfl (by rw [hlt]) ?_
      refine s_call rfl (mcopied_s (xs := xs.take n) ((hx.take (by omega)).tl) (by omega)) ?_
      rintro _ _ ⟨a5, rfl, rfl⟩
      refine ⟨chk_seq, ?_⟩
      refine sx ?_
      refine s_ret1 rfl rfl ⟨a5, Sx.sl a c n 1, c - n, by rw [e], by rw [e]; exact hx0.drop (by omega), by rw [e]⟩ ?_
      refine Ent.head ?_
      simp only [hld]
      exact Ent.refl
  · have e := takeS_none (n := n) (s := (xs, true)) (.inl rfl)
    refine sx ?_
    refine s_ret1 (H' := ob none 0 [] :: .hb S 122 [.slice a xs.length c, .bool true] :: H) rfl rfl ⟨none, a, c, by rw [e]; rfl, by rw [e]; exact hx0, by rw [e]; rfl⟩ Ent.nilS
abbrev NmsR (T S k : Nat) (s : SrcB) (H0 H : List Ck) (w0 : World) : Value → List Ck → Prop := fun v H' => ∃ a2 c2, v = .int .u64 ((numS k s).1 : Int) ∧ RBy w0 H0 a2 c2 (numS k s).2.1 ∧ H' = .hb S T [.slice a2 (numS k s).2.1.length c2, .bool (numS k s).2.2] :: H
theorem mnums_s {S k c : Nat} {a : Option Addr} {s : SrcB} {H0 : List Ck} (hx : RBy w0 H0 a c s.1) (he : Ent H H0) (hk : k ≤ 8) (hl : s.1.length ≤ 140737488355328) :
    FnS Tryz.prog w0 (.hb S 122 [.slice a s.1.length c, .bool s.2] :: H) 74 #[.pointer (some ⟨S, 0, none⟩), .int .i64 (k : Int)] (NmsR 122 S k s H0 H w0) := by
  refine fns_enter Tryz.func74 rfl rfl rfl ?_
  refine sx ?_
  refine s_call rfl (mtake_s (n := k) hx he (by omega) hl) ?_
  rintro _ _ ⟨ra, a2, c2, rfl, hr, rfl⟩
  refine ⟨chk_seq, ?_⟩
  have hlen := takeS_len k s
  have e : numS k s = (beN (takeS k s).1, (takeS k s).2) := rfl
  generalize takeS k s = t at hlen hr e ⊢
  obtain ⟨x, ys, bd⟩ := t
  simp only at hlen hr e ⊢
  refine sx ?_
  refine s_loop (fun i : Nat => [(5, .int .u64 (beN (x.take i) : Int)), (10, .slice ra x.length x.length), (11, .int .i64 x.length), (12, .int .i64 i)]) (fun _ => ob ra x.length x :: .hb S 122 [.slice a2 ys.length c2, .bool bd] :: H) (fun i => i ≤ x.length) (fun i => x.length - i) 0 (Nat.zero_le _) ?_
  intro i hi
  refine sx ?_
  refine s_if rfl (fun t1 => ?_) (fun t1 => ?_)
  · obtain ⟨u, hu⟩ := get_lt x i (by omega)
    have h1 := beN_step hu
    have h2 := beN_bd (x.take i) (k := 7) (by rw [List.length_take]; omega)
    have h3 : x.getD i 0 = u := by simp [List.getD, hu]
    have h4 := u.toNat_lt
    refine sx ?_
    refine s_yS rfl rfl rfl (y_shlU rfl (by omega)) ?_
    refine sx ?_
    refine s_rw (t := 19) (v' := .int .u64 ((u.toNat : Nat) : Int)) rfl (by rw [h3, wrap_u64 (by omega)]) ?_
    refine s_yS rfl rfl rfl (y_orU rfl rfl (by omega) (by omega)) ?_
    refine sx ?_
    exact s_again (i + 1) (by omega) (by omega)
  · obtain rfl : i = x.length := by omega
    rw [List.take_length]
    refine sx ?_
    refine s_ret1 rfl rfl ⟨a2, c2, by rw [e], by rw [e]; exact hr, by rw [e]⟩ (Ent.tl Ent.refl)
theorem numS_le (k : Nat) (s : SrcB) : (numS k s).2.1.length ≤ s.1.length := by
  have := takeS_le k s
  show (takeS k s).2.1.length ≤ s.1.length
  omega
theorem oneS_le (s : SrcB) : (oneS s).2.1.length ≤ s.1.length := by
  have h1 := numS_le 8 s
  have h2 := numS_le 1 (numS 8 s).2
  have h3 := numS_le 2 (numS 1 (numS 8 s).2).2
  have h4 := numS_le 2 (numS 2 (numS 1 (numS 8 s).2).2).2
  have h5 := takeS_le (numS 2 (numS 1 (numS 8 s).2).2).1 (numS 2 (numS 2 (numS 1 (numS 8 s).2).2).2).2
  have h6 := takeS_le (numS 2 (numS 2 (numS 1 (numS 8 s).2).2).2).1 (takeS (numS 2 (numS 1 (numS 8 s).2).2).1 (numS 2 (numS 2 (numS 1 (numS 8 s).2).2).2).2).2
  show (takeS _ _).2.1.length ≤ _
  omega
/-- All that Decode reads. -/
def srcM (xs : Bs) : List MD × SrcB := loopS (numS 4 (xs, false)).1 [] (numS 4 (xs, false)).2
structure DcI where
  n : Nat
  a7 : Option Addr
  c7 : Nat
  ms : List Mg
  a : Option Addr
  c : Nat
  s : SrcB
end Go.Sx
