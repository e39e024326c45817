/- The bytes of messages, by the program and by the document. -/
import Derived.Test.YtimakbpghggdfaaGreatCV2j
namespace Go.Sx
open Go Go.Proofs
set_option maxRecDepth 10000
section
variable {P : Program} {S : World → Prop} {l : List (Nat × Value)} {d : Option Tmp} {ty : TypeId} {pos : String} {af : Array Edge} {g : Option (Nat × Bool)}
theorem pow_8 (j : Nat) : (2 : Int) ^ (8 * j) = ((256 ^ j : Nat) : Int) := by
  rw [Int.pow_mul]
  simp
/-- v >> (8 * j). -/
theorem y_shrv {x y : Operand} {T U : TypeId} {v j : Nat} {s : Int} (hx : ev l x = some (.int .u64 (v : Int))) (hy : ev l y = some (.int .i64 s)) (hs : s = 8 * (j : Int)) (hj : j ≤ 8) :
    Y P S ⟨d, .binOp .shr T x y U, ty, pos, af, g⟩ l (.int .u64 ((v / 256 ^ j : Nat) : Int)) := .mk fun w _ ρ hρ => by
  subst hs
  have h1 : ¬ (8 * (j : Int) < 0) := by omega
  have h2 : min (8 * (j : Int)).toNat IntKind.u64.bits = 8 * j := by
    have : IntKind.u64.bits = 64 := rfl
    omega
  have h3 : (v : Int).fdiv (2 ^ (8 * j)) = ((v / 256 ^ j : Nat) : Int) := by
    rw [pow_8, Int.fdiv_eq_ediv_of_nonneg _ (Int.natCast_nonneg _)]
    rfl
  simp only [execOp, hρ _ _ hx, hρ _ _ hy, eqGuard_shr, binOp_shr, Op.shift, if_neg h1, h2, h3]
  rfl
end
theorem ofInt_nat (n : Nat) : UInt8.ofInt (n : Int) = UInt8.ofNat n := ofInt_eq (by rw [UInt8.toNat_ofNat']; omega)
theorem wrap_u64 {n : Nat} (h : n < 18446744073709551616) : IntKind.u64.wrap (n : Int) = (n : Int) := by
  simp only [IntKind.wrap, IntKind.bits, IntKind.signed, Bool.false_and, Bool.false_eq_true, if_false]
  omega
variable {w0 : World} {H : List Ck}
theorem mcopied_s {a : Option Addr} {c : Nat} {xs : Bs} (ha : RBy w0 H a c xs) (hx : xs.length ≤ 140737488355328) : FnS Tryz.prog w0 H 35 #[.slice a xs.length c] (fun v H' => ∃ a', v = .slice a' xs.length xs.length ∧ H' = ob a' xs.length xs :: H) := by
  refine fns_enter Tryz.func35 rfl rfl rfl ?_
  refine sx ?_
  refine s_call rfl (bclone_s ha hx) ?_
  rintro _ _ ⟨a1, c1, rfl, rfl⟩
  refine ⟨chk_seq, ?_⟩
  refine s_call rfl clip_s ?_
  rintro _ _ ⟨rfl, rfl⟩
  refine ⟨chk_seq, ?_⟩
  refine sx ?_
  exact s_ret1 rfl rfl ⟨a1, rfl, rfl⟩
abbrev NumR (xs : Bs) (k v : Nat) (H : List Ck) : Value → List Ck → Prop := fun r H' => ∃ a' c', r = .slice a' (xs ++ nbN k v).length c' ∧ H' = ob a' c' (xs ++ nbN k v) :: H
theorem nb_snoc {xs : Bs} {k v i : Nat} (h : i < k) : xs ++ (nbN k v).take i ++ [UInt8.ofNat (v / 256 ^ (k - 1 - i))] = xs ++ (nbN k v).take (i + 1) := by
  rw [snocT (nbN_get k v i h), List.append_assoc]
theorem mnumber_s {a : Option Addr} {c k v : Nat} {xs : Bs} (hk : k ≤ 8) (hl : xs.length ≤ 70368744177664) : FnS Tryz.prog w0 (ob a c xs :: H) 71 #[.slice a xs.length c, .int .u64 (v : Int), .int .i64 (k : Int)] (NumR xs k v H) := by
  refine fns_enter Tryz.func71 rfl rfl rfl ?_
  refine sx ?_
  refine s_loop (fun i : Nat × Option Addr × Nat => [(0, .slice i.2.1 (xs ++ (nbN k v).take i.1).length i.2.2), (1, .int .u64 (v : Int)), (2, .int .i64 (k : Int)), (8, .int .i64 (k : Int)), (9, .int .i64 i.1)]) (fun i => ob i.2.1 i.2.2 (xs ++ (nbN k v).take i.1) :: H) (fun i => i.1 ≤ k) (fun i => k - i.1) (0, a, c) (Nat.zero_le _) ?_ (h0 := by simp only [List.take_zero, List.append_nil]; repeat (first | exact trivial | refine And.intro (by first | exact rfl | exact congrArg some (ci (by omega))) ?_)) (he := by simp only [List.take_zero, List.append_nil]; exact Ent.refl)
  rintro ⟨i, a1, c1⟩ hi
  simp only at hi ⊢
  have hlen : (xs ++ (nbN k v).take i).length = xs.length + i := by rw [List.length_append, List.length_take, nbN_len]; omega
  refine sx ?_
  refine s_if rfl (fun t1 => ?_) (fun t1 => ?_)
  · refine sx ?_
    refine s_yS rfl rfl rfl (y_shrv (j := k - 1 - i) rfl rfl (by omega) (by omega)) ?_
    refine sx ?_
    refine s_rw (t := 20) (v' := bv (UInt8.ofNat (v / 256 ^ (k - 1 - i)))) rfl (by rw [ofInt_nat]) ?_
    refine s_bsl ([UInt8.ofNat (v / 256 ^ (k - 1 - i))] : Bs) rfl rfl fun b21 => ?_
    refine s_app (xs := xs ++ (nbN k v).take i) ?_ (hby := by simp only [List.length_cons, List.length_nil]; omega)
    intro a2 c2
    rw [nb_snoc (by omega)]
    refine sx ?_
    exact s_again (i + 1, a2, c2) (by simp only; omega) (by simp only; omega)
  · obtain rfl : i = k := by omega
    rw [List.take_of_length_le (by rw [nbN_len]; exact Nat.le_refl _)]
    refine sx ?_
    exact s_ret1 rfl rfl ⟨a1, c1, rfl, rfl⟩
theorem rnumber_s {a : Option Addr} {c k v : Nat} {xs : Bs} (hk : k ≤ 8) (hl : xs.length ≤ 70368744177664) : FnS Tryz.prog w0 (ob a c xs :: H) 159 #[.slice a xs.length c, .int .u64 (v : Int), .int .i64 (k : Int)] (NumR xs k v H) := by
  refine fns_enter Tryz.func159 rfl rfl rfl ?_
  refine sx ?_
  refine s_loop (fun i : Nat × Option Addr × Nat => [(0, .slice i.2.1 (xs ++ (nbN k v).take i.1).length i.2.2), (1, .int .u64 (v : Int)), (7, .int .i64 ((k : Int) - 1 - i.1))]) (fun i => ob i.2.1 i.2.2 (xs ++ (nbN k v).take i.1) :: H) (fun i => i.1 ≤ k) (fun i => k - i.1) (0, a, c) (Nat.zero_le _) ?_ (h0 := by simp only [List.take_zero, List.append_nil]; repeat (first | exact trivial | refine And.intro (by first | exact rfl | exact congrArg some (ci (by omega))) ?_)) (he := by simp only [List.take_zero, List.append_nil]; exact Ent.refl)
  rintro ⟨i, a1, c1⟩ hi
  simp only at hi ⊢
  have hlen : (xs ++ (nbN k v).take i).length = xs.length + i := by rw [List.length_append, List.length_take, nbN_len]; omega
  refine sx ?_
  refine s_if rfl (fun t1 => ?_) (fun t1 => ?_)
  · refine sx ?_
    refine s_yS rfl rfl rfl (y_shrv (j := k - 1 - i) rfl rfl (by omega) (by omega)) ?_
    refine sx ?_
    refine s_rw (t := 19) (v' := bv (UInt8.ofNat (v / 256 ^ (k - 1 - i)))) rfl (by rw [ofInt_nat]) ?_
    refine s_bsl ([UInt8.ofNat (v / 256 ^ (k - 1 - i))] : Bs) rfl rfl fun b21 => ?_
    refine s_app (xs := xs ++ (nbN k v).take i) ?_ (hby := by simp only [List.length_cons, List.length_nil]; omega)
    intro a2 c2
    rw [nb_snoc (by omega)]
    refine sx ?_
    exact s_again (i + 1, a2, c2) (by simp only; omega) (by simp only; omega)
  · obtain rfl : i = k := by omega
    rw [List.take_of_length_le (by rw [nbN_len]; exact Nat.le_refl _)]
    refine sx ?_
    exact s_ret1 rfl rfl ⟨a1, c1, rfl, rfl⟩
/-- What Encode gives: bytes, or none. -/
def encL (size : Int) (l : List MD) : Bs := if chkM size l = 0 then layM l else []
theorem layM_step {l : List MD} {i : Nat} {m : MD} (h : l[i]? = some m) : nbN 4 l.length ++ (l.take (i + 1)).flatMap encM1 = nbN 4 l.length ++ (l.take i).flatMap encM1 ++ nbN 8 m.st.toNat ++ nbN 1 m.kd.toNat ++ nbN 2 m.lo.length ++ nbN 2 (tailM m).length ++ m.lo ++ tailM m := by
  rw [flatS encM1 h, encM1]
  simp only [List.append_assoc]
theorem lay_len {l : List MD} {i : Nat} {m : MD} (h : l[i]? = some m) : (nbN 4 l.length ++ (l.take i).flatMap encM1).length + lenM m ≤ 4 + sumM l := by
  have h1 := sumM_get h
  have h2 := sumM_take l (i + 1)
  rw [List.length_append, nbN_len, encs_len]
  omega
set_option maxHeartbeats 2000000 in
theorem mencode_s {size : Int} {a : Option Addr} {c : Nat} {ms : List Mg} (hx : RMs w0 H a c ms) (hb : sumM (ms.map Mg.d) ≤ 35184372088832) :
    FnS Tryz.prog w0 H 31 #[.int .i64 size, .slice a ms.length c] (fun v H' => ∃ a' c', v = .tuple #[.slice a' (encL size (ms.map Mg.d)).length c', .int .i64 (chkM size (ms.map Mg.d))] ∧ H' = ob a' c' (encL size (ms.map Mg.d)) :: H) := by
  have hsl := hx.sl
  refine fns_enter Tryz.func31 rfl rfl rfl ?_
  refine s_kn (Kn.sl hsl) fun l1 => ?_
  simp only [maxLen] at l1
  refine sx ?_
  refine s_callV rfl (mcheck_s hx) ?_
  refine sx ?_
  refine s_ifn rfl (fun t1 => ?_) (fun t1 => ?_)
  · refine sx ?_
    rw [encL, if_neg t1]
    refine s_ret2 rfl rfl rfl ⟨none, 0, rfl, rfl⟩ Ent.nilS
  rw [encL, if_pos t1]
  have hcan := chkM_canon t1
  have hln := sumM_len (ms.map Mg.d)
  rw [List.length_map] at hln
  refine sx ?_
  refine s_entL (ob none 0 [] :: H) Ent.nilS ?_
  refine s_call rfl (mnumber_s (xs := []) (k := 4) (v := ms.length) (by omega) (by simp)) ?_
  rintro _ _ ⟨a7, c7, rfl, rfl⟩
  refine ⟨chk_seq, ?_⟩
  have e0 : ([] : Bs) ++ nbN 4 ms.length = nbN 4 (ms.map Mg.d).length ++ ((ms.map Mg.d).take 0).flatMap encM1 := by simp
  rw [e0]
  refine sx ?_
  refine s_loop (fun i : Nat × Option Addr × Nat => [(7, .slice i.2.1 (nbN 4 (ms.map Mg.d).length ++ ((ms.map Mg.d).take i.1).flatMap encM1).length i.2.2), (21, .slice a ms.length c), (22, .int .i64 ms.length), (23, .int .i64 i.1)]) (fun i => ob i.2.1 i.2.2 (nbN 4 (ms.map Mg.d).length ++ ((ms.map Mg.d).take i.1).flatMap encM1) :: H) (fun i => i.1 ≤ ms.length) (fun i => ms.length - i.1) (0, a7, c7) (Nat.zero_le _) ?_
  rintro ⟨i, a1, c1⟩ hi
  simp only at hi ⊢
  refine sx ?_
  refine s_if rfl (fun t2 => ?_) (fun t2 => ?_)
  · obtain ⟨m, hm⟩ := get_lt ms i (by omega)
    have hmd := get_map (f := Mg.d) hm
    have hmm := List.mem_of_getElem? hm
    obtain ⟨r1, r2, r3⟩ := hx.el m hmm
    have hc := hcan m.d (List.mem_of_getElem? hmd)
    have hll := lay_len hmd
    have e3 : lenM m.d = 13 + m.lo.length + m.hi.length + m.v.length := rfl
    have e4 : (tailM m.d).length = m.hi.length + m.v.length := by simp [tailM]
    have hstep := layM_step hmd
    generalize nbN 4 (ms.map Mg.d).length ++ ((ms.map Mg.d).take i).flatMap encM1 = bs at hll hstep ⊢
    refine sx ?_
    refine s_alloc fun b9 => ?_
    refine sx ?_
    refine sx ?_; refine s_drH (ob a1 c1 bs :: .hb b9 35 m.cells :: H) (.one true 0 (.one true 1 (.one true 3 (.one true 4 (.one false 2 (.one false 5 (.one true 6 .nil))))))) mixed (by kernel_rfl) ?_; refine sx ?_
    refine s_call rfl (mcopied_s (xs := m.hi) (by exact rby) (by omega)) ?_
    rintro _ _ ⟨a10, rfl, rfl⟩
    refine ⟨chk_held (by exact ent), ?_⟩
    refine sx ?_
    refine s_app (xs := m.hi) (ys := m.v) ?_ (hby := by omega)
    intro a11 c11
    generalize htl : m.hi ++ m.v = tl
    have hltl : tl.length = m.hi.length + m.v.length := by rw [← htl, List.length_append]
    refine sx ?_
    refine s_rw (t := 35) (v' := .int .u64 ((m.st.toNat : Nat) : Int)) rfl (ci (by have := hc.st; simp only at this; omega)) ?_
    refine s_entL (ob a1 c1 bs :: ob a11 c11 tl :: .hb b9 35 m.cells :: H) (by exact ent) ?_
    refine s_call rfl (mnumber_s (xs := bs) (k := 8) (v := m.st.toNat) (by omega) (by omega)) ?_
    rintro _ _ ⟨a12, c12, rfl, rfl⟩
    refine ⟨chk_seq, ?_⟩
    generalize hb1 : bs ++ nbN 8 m.st.toNat = bs1
    have hl1 : bs1.length = bs.length + 8 := by rw [← hb1]; simp only [List.length_append, nbN_len, List.length_cons, List.length_nil]
    refine sx ?_
    refine s_rw (t := 40) (v' := bv (UInt8.ofNat m.kd.toNat)) rfl (by rw [← ofInt_nat]; congr 2; have := hc.kd; simp only at this; omega) ?_
    refine s_bsl ([UInt8.ofNat m.kd.toNat] : Bs) rfl rfl fun b41 => ?_
    refine s_app (xs := bs1) ?_ (hby := by simp only [List.length_cons, List.length_nil]; omega)
    intro a13 c13
    generalize hb2 : bs1 ++ [UInt8.ofNat m.kd.toNat] = bs2
    have hl2 : bs2.length = bs1.length + (0 + 1) := by rw [← hb2]; simp only [List.length_append, nbN_len, List.length_cons, List.length_nil]
    refine sx ?_
    refine s_entL (ob a13 c13 bs2 :: ob a11 c11 tl :: .hb b9 35 m.cells :: H) (by exact ent) ?_
    refine s_call rfl (mnumber_s (xs := bs2) (k := 2) (v := m.lo.length) (by omega) (by omega)) ?_
    rintro _ _ ⟨a14, c14, rfl, rfl⟩
    refine ⟨chk_seq, ?_⟩
    generalize hb3 : bs2 ++ nbN 2 m.lo.length = bs3
    have hl3 : bs3.length = bs2.length + 2 := by rw [← hb3]; simp only [List.length_append, nbN_len, List.length_cons, List.length_nil]
    refine sx ?_
    refine s_call rfl (mnumber_s (xs := bs3) (k := 2) (v := tl.length) (by omega) (by omega)) ?_
    rintro _ _ ⟨a15, c15, rfl, rfl⟩
    refine ⟨chk_seq, ?_⟩
    generalize hb4 : bs3 ++ nbN 2 tl.length = bs4
    have hl4 : bs4.length = bs3.length + 2 := by rw [← hb4]; simp only [List.length_append, nbN_len, List.length_cons, List.length_nil]
    refine sx ?_
    refine s_app (xs := bs4) (ys := m.lo) ?_ (hby := by omega)
    intro a16 c16
    generalize hb5 : bs4 ++ m.lo = bs5
    have hl5 : bs5.length = bs4.length + m.lo.length := by rw [← hb5]; simp only [List.length_append, nbN_len, List.length_cons, List.length_nil]
    refine sx ?_
    refine s_app (xs := bs5) (ys := tl) ?_ (hby := by omega)
    intro a17 c17
    have e5 : bs5 ++ tl = nbN 4 (ms.map Mg.d).length ++ ((ms.map Mg.d).take (i + 1)).flatMap encM1 := by
      rw [hstep, ← hb5, ← hb4, ← hb3, ← hb2, ← hb1, ← htl]
      rfl
    rw [e5]
    refine sx ?_
    exact s_again (i + 1, a17, c17) (by simp only; omega) (by simp only; omega)
  · obtain rfl : i = ms.length := by omega
    have e : (ms.map Mg.d).take ms.length = ms.map Mg.d := List.take_of_length_le (by simp)
    rw [e]
    have el : nbN 4 (ms.map Mg.d).length ++ (ms.map Mg.d).flatMap encM1 = layM (ms.map Mg.d) := rfl
    rw [el]
    generalize layM (ms.map Mg.d) = bs
    refine sx ?_
    refine s_call rfl clip_s ?_
    rintro _ _ ⟨rfl, rfl⟩
    refine ⟨chk_seq, ?_⟩
    refine sx ?_
    exact s_ret2 rfl rfl rfl ⟨a1, _, by rw [t1], rfl⟩
set_option maxHeartbeats 2000000 in
theorem rlay_s {a : Option Addr} {c : Nat} {ms : List Mg} (hx : RMs w0 H a c ms) (hcan : ∀ m ∈ ms.map Mg.d, Canon m) (hb : sumM (ms.map Mg.d) ≤ 35184372088832) :
    FnS Tryz.prog w0 H 131 #[.slice a ms.length c] (fun v H' => ∃ a' c', v = .slice a' (layM (ms.map Mg.d)).length c' ∧ H' = ob a' c' (layM (ms.map Mg.d)) :: H) := by
  have hsl := hx.sl
  refine fns_enter Tryz.func131 rfl rfl rfl ?_
  refine s_kn (Kn.sl hsl) fun l1 => ?_
  simp only [maxLen] at l1
  have hln := sumM_len (ms.map Mg.d)
  rw [List.length_map] at hln
  refine sx ?_
  refine s_entL (ob none 0 [] :: H) Ent.nilS ?_
  refine s_call rfl (rnumber_s (xs := []) (k := 4) (v := ms.length) (by omega) (by simp)) ?_
  rintro _ _ ⟨a7, c7, rfl, rfl⟩
  refine ⟨chk_seq, ?_⟩
  have e0 : ([] : Bs) ++ nbN 4 ms.length = nbN 4 (ms.map Mg.d).length ++ ((ms.map Mg.d).take 0).flatMap encM1 := by simp
  rw [e0]
  refine sx ?_
  refine s_loop (fun i : Nat × Option Addr × Nat => [(0, .slice a ms.length c), (3, .slice i.2.1 (nbN 4 (ms.map Mg.d).length ++ ((ms.map Mg.d).take i.1).flatMap encM1).length i.2.2), (4, .int .i64 i.1)]) (fun i => ob i.2.1 i.2.2 (nbN 4 (ms.map Mg.d).length ++ ((ms.map Mg.d).take i.1).flatMap encM1) :: H) (fun i => i.1 ≤ ms.length) (fun i => ms.length - i.1) (0, a7, c7) (Nat.zero_le _) ?_
  rintro ⟨i, a1, c1⟩ hi
  simp only at hi ⊢
  refine sx ?_
  refine s_if rfl (fun t2 => ?_) (fun t2 => ?_)
  · obtain ⟨m, hm⟩ := get_lt ms i (by omega)
    have hmd := get_map (f := Mg.d) hm
    have hmm := List.mem_of_getElem? hm
    obtain ⟨r1, r2, r3⟩ := hx.el m hmm
    have hc := hcan m.d (List.mem_of_getElem? hmd)
    have hll := lay_len hmd
    have e3 : lenM m.d = 13 + m.lo.length + m.hi.length + m.v.length := rfl
    have e4 : (tailM m.d).length = m.hi.length + m.v.length := by simp [tailM]
    have hstep := layM_step hmd
    generalize nbN 4 (ms.map Mg.d).length ++ ((ms.map Mg.d).take i).flatMap encM1 = bs at hll hstep ⊢
    refine sx ?_
    refine s_cut (ι := Option Addr × Nat × Bs) (fun j => [(0, .slice a ms.length c), (3, .slice a1 bs.length c1), (4, .int .i64 i), (5, .slice j.1 j.2.2.length j.2.1)]) (fun _ => ob a1 c1 bs :: H) (fun j => RBy w0 H j.1 j.2.1 j.2.2 ∧ j.2.2 = tailM m.d) ?_ ?_
    · refine s_if rfl (fun t3 => ?_) (fun t3 => ?_)
      · have := hc.cut t3
        simp only at this
        refine sx ?_
        exact s_mid (m.ha, m.hc, m.hi) ⟨r2, by simp [tailM, this]⟩
      · have := hc.one t3
        simp only at this
        refine sx ?_
        exact s_mid (m.va, m.vc, m.v) ⟨r3, by simp [tailM, this]⟩
    rintro ⟨ta, tc, tl⟩ ⟨r4, htl⟩
    simp only at r4 htl ⊢
    have hltl : tl.length = m.hi.length + m.v.length := by rw [htl, e4]
    refine sx ?_
    refine s_rw (t := 37) (v' := .int .u64 ((m.st.toNat : Nat) : Int)) rfl (ci (by have := hc.st; simp only at this; omega)) ?_
    refine s_call rfl (rnumber_s (xs := bs) (k := 8) (v := m.st.toNat) (by omega) (by omega)) ?_
    rintro _ _ ⟨a12, c12, rfl, rfl⟩
    refine ⟨chk_seq, ?_⟩
    generalize hb1 : bs ++ nbN 8 m.st.toNat = bs1
    have hl1 : bs1.length = bs.length + 8 := by rw [← hb1]; simp [nbN_len]
    refine sx ?_
    refine s_rw (t := 45) (v' := bv (UInt8.ofNat m.kd.toNat)) rfl (by rw [← ofInt_nat]; congr 2; have := hc.kd; simp only at this; omega) ?_
    refine s_bsl ([UInt8.ofNat m.kd.toNat] : Bs) rfl rfl fun b41 => ?_
    refine s_app (xs := bs1) ?_ (hby := by simp only [List.length_cons, List.length_nil]; omega)
    intro a13 c13
    generalize hb2 : bs1 ++ [UInt8.ofNat m.kd.toNat] = bs2
    have hl2 : bs2.length = bs1.length + 1 := by rw [← hb2]; simp [nbN_len]
    refine sx ?_
    refine s_entL (ob a13 c13 bs2 :: H) (by exact ent) ?_
    refine s_call rfl (rnumber_s (xs := bs2) (k := 2) (v := m.lo.length) (by omega) (by omega)) ?_
    rintro _ _ ⟨a14, c14, rfl, rfl⟩
    refine ⟨chk_seq, ?_⟩
    generalize hb3 : bs2 ++ nbN 2 m.lo.length = bs3
    have hl3 : bs3.length = bs2.length + 2 := by rw [← hb3]; simp [nbN_len]
    refine sx ?_
    refine s_call rfl (rnumber_s (xs := bs3) (k := 2) (v := tl.length) (by omega) (by omega)) ?_
    rintro _ _ ⟨a15, c15, rfl, rfl⟩
    refine ⟨chk_seq, ?_⟩
    generalize hb4 : bs3 ++ nbN 2 tl.length = bs4
    have hl4 : bs4.length = bs3.length + 2 := by rw [← hb4]; simp [nbN_len]
    refine sx ?_
    refine s_app (xs := bs4) (ys := m.lo) ?_ (hby := by omega)
    intro a16 c16
    generalize hb5 : bs4 ++ m.lo = bs5
    have hl5 : bs5.length = bs4.length + m.lo.length := by rw [← hb5]; simp [nbN_len]
    refine sx ?_
    refine s_app (xs := bs5) (ys := tl) ?_ (hby := by omega)
    intro a17 c17
    have e5 : bs5 ++ tl = nbN 4 (ms.map Mg.d).length ++ ((ms.map Mg.d).take (i + 1)).flatMap encM1 := by
      rw [hstep, ← hb5, ← hb4, ← hb3, ← hb2, ← hb1, htl]
      rfl
    rw [e5]
    refine sx ?_
    exact s_again (i + 1, a17, c17) (by simp only; omega) (by simp only; omega)
  · obtain rfl : i = ms.length := by omega
    have e : (ms.map Mg.d).take ms.length = ms.map Mg.d := List.take_of_length_le (by simp)
    rw [e]
    have el : nbN 4 (ms.map Mg.d).length ++ (ms.map Mg.d).flatMap encM1 = layM (ms.map Mg.d) := rfl
    rw [el]
    generalize layM (ms.map Mg.d) = bs
    refine sx ?_
    exact s_ret1 rfl rfl ⟨a1, c1, rfl, rfl⟩
end Go.Sx

