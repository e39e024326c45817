/- Part of a proof: the law's own small functions: pick, filled, waits, sameWaits, shown, sized, beyond. -/
import Derived.Test.YtjbjblhfccddkaaCTL
import Derived.Test.YtjbjblhfccddkaaCTP
import Derived.Test.YtjbjblhfccddkaaCKB
namespace Go.Sx
open Go Go.Proofs
set_option maxRecDepth 10000
variable {w0 : World} {H : List Ck}
section
variable {P : Program} {S : World → Prop} {l : List (Nat × Value)} {d : Option Tmp} {ty : TypeId} {pos : String} {af : Array Edge} {g : Option (Nat × Bool)}
theorem y_quov {x y : Operand} {T U : TypeId} {a c : Nat} (hx : ev l x = some (.int .i64 (a : Int))) (hy : ev l y = some (.int .i64 (c : Int))) (h : a ≤ 9223372036854775807 ∧ 1 ≤ c) :
    Y P S ⟨d, .binOp .quo T x y U, ty, pos, af, g⟩ l (.int .i64 ((a / c : Nat) : Int)) := .mk fun w _ ρ hρ => by
  have hne : ¬ c = 0 := by omega
  have hle := Nat.div_le_self a c
  have e : ((a / c : Nat) : Int) = (a : Int) / (c : Int) := rfl
  have this : IntKind.i64.wrap ((a : Int) / (c : Int)) = (a : Int) / (c : Int) := by
    rw [← e]
    generalize a / c = N at hle
    exact IntWalk.i64_in (N : Int) (by omega)
  simp [execOp, hρ _ _ hx, hρ _ _ hy, eqGuard_quo, binOp_quo, Op.intDiv, hne, this]
end
def pkL (c n : Int) : Int := (if c < 0 then -(c + 1) else c) % n
theorem pkL_bd {c n : Int} (hn : 0 < n) : 0 ≤ pkL c n ∧ pkL c n < n := ⟨Int.emod_nonneg _ (by omega), Int.emod_lt_of_pos _ hn⟩
theorem dpick_s {c n : Int} (hc : I64 c) (hn : 0 < n) : FnV Try.prog w0 H 10 #[.int .i64 c, .int .i64 n] (.int .i64 (pkL c n)) := by
  refine fns_enter Try.func10 rfl rfl rfl ?_
  refine sx ?_
  refine s_if rfl (fun t1 => ?_) (fun t1 => ?_)
  · refine sx ?_
    refine s_ret1 rfl rfl ⟨?_, rfl⟩
    rw [pkL, if_pos t1]
  · refine sx ?_
    refine s_ret1 rfl rfl ⟨?_, rfl⟩
    rw [pkL, if_neg t1]
def flB (n i : Nat) (b : UInt8) : Bs := List.replicate i b ++ List.replicate (n - i) 0
theorem flB_set {n i : Nat} {b : UInt8} (h : i < n) : (flB n i b).set i b = flB n (i + 1) b := by
  unfold flB
  obtain ⟨k, hk⟩ : ∃ k, n - i = k + 1 := ⟨n - i - 1, by omega⟩
  rw [hk, show n - (i + 1) = k by omega, List.set_append_right _ _ (by simp), List.length_replicate, Nat.sub_self, List.replicate_succ, List.set_cons_zero, List.replicate_succ', List.append_assoc]
  rfl
theorem flB_len {n i : Nat} {b : UInt8} (h : i ≤ n) : (flB n i b).length = n := by simp [flB]; omega
theorem flB_end {n : Nat} {b : UInt8} : flB n n b = rp n b := by simp [flB]
abbrev FilR (n : Nat) (b : UInt8) (H : List Ck) : Value → List Ck → Prop := fun v K => ∃ a, v = .slice (some a) n n ∧ K = ob (some a) n (rp n b) :: H
theorem filled_s {n : Nat} {b : UInt8} (hn : n ≤ 4096) : FnS Try.prog w0 H 12 #[.int .i64 n, bv b] (FilR n b H) := by
  refine fns_enter Try.func12 rfl rfl rfl ?_
  refine sx ?_
  refine s_make (α := UInt8) (c := n) (x0 := 0) rfl rfl ⟨by omega, by omega⟩ fun a => ?_
  refine sx ?_
  refine s_loop (fun i : Nat => [(0, .int .i64 n), (1, bv b), (5, .slice (some a) (flB n i b).length n), (6, .int .i64 i)]) (fun i => ob (some a) n (flB n i b) :: H) (fun i => i ≤ n) (fun i => n - i) 0 (Nat.zero_le _) ?_ (h0 := ?_) (he := ?_)
  rotate_left
  · rw [flB_len (Nat.zero_le _)]
    exact ⟨rfl, rfl, rfl, rfl, trivial⟩
  · exact Ent.refl
  intro i hi
  have hl := flB_len (b := b) hi
  refine sx ?_
  refine s_if rfl (fun t1 => ?_) (fun t1 => ?_)
  · refine sx ?_
    refine s_set1g (i := i) (y := b) rfl rfl (by exact at_) rfl (by omega) ?_
    refine sx ?_
    have e := flB_set (b := b) (show i < n by omega)
    refine s_again (i + 1) (by omega) (by omega) ?_ ?_
    · rw [show (flB n (i + 1) b).length = (flB n i b).length from (flB_len (by omega)).trans hl.symm]
      exact ⟨rfl, rfl, rfl, rfl, trivial⟩
    · rw [← e]
      exact Ent.refl
  · obtain rfl : i = n := by omega
    refine sx ?_
    refine s_ret1 rfl rfl ⟨a, ?_, rfl⟩ ?_
    · rw [hl]
    · rw [flB_end]
      exact Ent.refl
/-- How many writes wait of a block, by a list. -/
def wtL : List Wt → Int → Nat
  | [], _ => 0
  | x :: l, n => if x.b = n then x.n else wtL l n
theorem wtL_hit : ∀ {l : List Wt} {i : Nat} {x : Wt}, l[i]? = some x → (∀ k y, k < i → l[k]? = some y → y.b ≠ x.b) → wtL l x.b = x.n
  | [], _, _, h, _ => by simp at h
  | y :: l, 0, x, h, _ => by
    simp only [List.getElem?_cons_zero, Option.some.injEq] at h
    subst h
    simp [wtL]
  | y :: l, i + 1, x, h, hn => by
    have h1 : y.b ≠ x.b := hn 0 y (by omega) rfl
    rw [wtL, if_neg h1]
    exact wtL_hit (i := i) (by simpa using h) fun k z hk hz => hn (k + 1) z (by omega) (by simpa using hz)
theorem wtL_no : ∀ {l : List Wt} {n : Int}, (∀ x ∈ l, x.b ≠ n) → wtL l n = 0
  | [], _, _ => rfl
  | y :: l, n, h => by
    rw [wtL, if_neg (h y (by simp))]
    exact wtL_no fun x hx => h x (by simp [hx])
theorem wtL_of {A : Ad} {l : List Int} (h : A.Pend l) (n : Int) : wtL (l.map A.wto) n = (A.at_ n).ws.length := by
  by_cases hn : n ∈ l
  · obtain ⟨i, hi⟩ := List.getElem?_of_mem hn
    have hu := List.pairwise_iff_getElem.1 h.up
    have := wtL_hit (l := l.map A.wto) (i := i) (x := A.wto n) (by simp [hi]) (fun k y hk hy => by
      simp only [List.getElem?_map, Option.map_eq_some_iff] at hy
      obtain ⟨m, hm, rfl⟩ := hy
      obtain ⟨l1, l2⟩ := List.getElem?_eq_some_iff.1 hi
      obtain ⟨m1, m2⟩ := List.getElem?_eq_some_iff.1 hm
      have := hu k i m1 l1 hk
      show m ≠ n
      omega)
    exact this
  · rw [wtL_no (fun x hx => by
      obtain ⟨m, hm, rfl⟩ := List.mem_map.1 hx
      rintro rfl
      exact hn hm)]
    have : ¬ (A.at_ n).ws ≠ [] := fun h1 => hn ((h.iff n).2 h1)
    simp at this
    rw [this]; rfl
theorem waits_s {a : Option Addr} {c : Nat} {l : List Wt} {n : Int} (hl : RSl w0 H a c l) (hz : l.length ≤ 65536) : FnV Try.prog w0 H 34 #[.slice a l.length c, .int .i64 n] (.int .i64 (wtL l n)) := by
  refine fns_enter Try.func34 rfl rfl rfl ?_
  refine sx ?_
  refine s_loop (fun i : Nat => [(0, .slice a l.length c), (1, .int .i64 n), (5, .int .i64 i)]) (fun _ => H) (fun i => i ≤ l.length ∧ ∀ k y, k < i → l[k]? = some y → y.b ≠ n) (fun i => l.length - i) 0 ⟨Nat.zero_le _, fun k _ h => absurd h (by omega)⟩ ?_
  rintro i ⟨hi, hno⟩
  refine sx ?_
  refine s_if rfl (fun t1 => ?_) (fun t1 => ?_)
  · obtain ⟨x, hx⟩ : ∃ x, l[i]? = some x := ⟨_, List.getElem?_eq_getElem (by omega)⟩
    refine sx ?_
    refine s_if rfl (fun t2 => ?_) (fun t2 => ?_)
    · refine sx ?_
      have t2 : x.b = n := t2
      refine s_ret1 rfl rfl ⟨?_, rfl⟩
      rw [← t2, wtL_hit hx (fun k y hk hy => by rw [t2]; exact hno k y hk hy)]
    · refine sx ?_
      refine s_again (i + 1) ⟨by omega, fun k y hk hy => ?_⟩ (by omega)
      rcases Nat.lt_or_eq_of_le (Nat.lt_succ_iff.1 hk) with h | rfl
      · exact hno k y h hy
      · rw [hx] at hy; cases hy; exact t2
  · refine sx ?_
    refine s_ret1 rfl rfl ⟨?_, rfl⟩
    rw [wtL_no fun x hx => by
      obtain ⟨k, hk⟩ := List.getElem?_of_mem hx
      have := (List.getElem?_eq_some_iff.1 hk).1
      exact hno k x (by omega) hk]
    rfl
instance : DecidableEq Wt := fun x y => if h : x.b = y.b ∧ x.n = y.n then isTrue (by
    obtain ⟨p, b⟩ := x
    obtain ⟨p', b'⟩ := y
    obtain ⟨h1, h2⟩ := h
    simp only at h1 h2
    rw [h1, h2]) else isFalse (fun e => h (by rw [e]; exact ⟨rfl, rfl⟩))
theorem eqWt_run (x y : Wt) (w : World) : (Op.equalIn 10000 43 (.agg (Cel.f x).toArray) (.agg (Cel.f y).toArray)).run Try.prog w = .ok (decide (x = y)) w := by
  have hS : Try.prog.underlying 43 = some (.struct (Try.prog.fieldsOf 43)) := by kernel_rfl
  have hp : Try.prog.stoodInHeld 43 = false := by kernel_rfl
  have u1 : Try.prog.underlying 3 = some (.int .i64) := by kernel_rfl
  have a1 : ∀ w, (isAgg 3).run Try.prog w = .ok false w := fun _ => by kernel_rfl
  have z1 : ∀ w, (sizeOf 3).run Try.prog w = .ok 1 w := fun _ => by kernel_rfl
  have hF : (Try.prog.fieldsOf 43).toList = [⟨ "Block", 3, 0, false, "", "", 0⟩, ⟨ "Writes", 3, 1, false, "", "", 8⟩] := by kernel_rfl
  show (Op.equalIn 10000 43 (.agg ([.int .i64 x.b, .int .i64 x.n] : List Value).toArray) (.agg ([.int .i64 y.b, .int .i64 y.n] : List Value).toArray)).run Try.prog w = _
  rw [show (10000 : Nat) = 9999 + 1 from rfl, run_equalIn_struct w 9999 43 _ _ hS hp, hF]
  go_simp
  obtain ⟨p, b⟩ := x
  obtain ⟨p', b'⟩ := y
  by_cases h1 : p = p' <;> by_cases h2 : b = b' <;> simp [h1, h2, Int.ofNat_inj]
instance : EqT Try.prog 43 Wt := ⟨eqWt_run, by kernel_rfl⟩
theorem sameWaits_s {a a' : Option Addr} {c c' : Nat} {xs ys : List Wt} (hx : RSl w0 H a c xs) (hy : RSl w0 H a' c' ys) (hz : xs.length ≤ 65536) (_hz' : ys.length ≤ 65536) :
    FnV Try.prog w0 H 24 #[.slice a xs.length c, .slice a' ys.length c'] (.bool (decide (xs = ys))) := by
  refine fns_enter Try.func24 rfl rfl rfl ?_
  refine sx ?_
  refine s_ifn rfl (fun t1 => ?_) (fun t1 => ?_)
  · refine sx ?_
    refine s_ret1 rfl rfl ⟨?_, rfl⟩
    rw [decide_eq_false (fun e => t1 (by rw [e]))]
  have hl : xs.length = ys.length := by omega
  refine sx ?_
  refine s_loop (fun i : Nat => [(0, .slice a xs.length c), (1, .slice a' ys.length c'), (5, .int .i64 i)]) (fun _ => H) (fun i => i ≤ xs.length ∧ xs.take i = ys.take i) (fun i => xs.length - i) 0 ⟨Nat.zero_le _, rfl⟩ ?_
  rintro i ⟨hi, he⟩
  refine sx ?_
  refine s_if rfl (fun t2 => ?_) (fun t2 => ?_)
  · obtain ⟨x, hxi⟩ : ∃ x, xs[i]? = some x := ⟨_, List.getElem?_eq_getElem (by omega)⟩
    obtain ⟨y, hyi⟩ : ∃ y, ys[i]? = some y := ⟨_, List.getElem?_eq_getElem (by omega)⟩
    refine sx ?_; refine s_dr (.one true 0 (.one true 1 (.one true 2 (.one true 3 (.one true 4 (.one true 5 (.one true 6 (.one true 7 (.one true 8 .nil))))))))) mixed (by kernel_rfl) ?_; refine sx ?_
    refine (s_gH (s_yH rfl rfl rfl (y_neA x y rfl rfl rfl rfl) ?_))
    refine sx ?_
    refine s_ifn rfl (fun t3 => ?_) (fun t3 => ?_)
    · refine sx ?_
      refine s_ret1 rfl rfl ⟨?_, rfl⟩
      rw [decide_eq_false (fun e => t3 (by rw [e, hyi] at hxi; cases hxi; rfl))]
    · refine sx ?_
      refine s_again (i + 1) ⟨by omega, ?_⟩ (by omega)
      rw [snocT hxi, snocT hyi, he, t3]
  · refine sx ?_
    refine s_ret1 rfl rfl ⟨?_, rfl⟩
    rw [List.take_of_length_le (by omega), List.take_of_length_le (by omega)] at he
    rw [decide_eq_true he]
/-- What a block shows, and whether it can be read. -/
def Ad.txt (A : Ad) (n : Int) : Bs := if A.rerr n = 0 then (A.at_ n).shows else []
theorem shown_s {c : Cd} {N : Nat} {n : Int} (hc : c.Ok N) (hn : I64 n) (hN : N ≤ 1099511627776) : FnS Try.prog w0 (c.on 0 H) 17 #[.pointer (some ⟨c.b, 0, none⟩), .int .i64 n] (fun v K =>
    ∃ c' : Cd, c'.b = c.b ∧ c'.Ok N ∧ c'.ad = c.ad ∧ v = .tuple #[str (c.ad.txt n), .bool (decide (c.ad.rerr n = 0))] ∧ K = c'.on 0 H) := by
  refine fns_enter Try.func17 rfl rfl rfl ?_
  refine sx ?_
  refine s_call rfl (read_s hc hn hN) ?_
  rintro _ _ ⟨c', q1, q2, q3, ⟨e1, rfl, rfl⟩ | ⟨e1, a, rfl, rfl⟩⟩
  · refine ⟨chk_seq, ?_⟩
    refine sx ?_
    refine s_yS rfl rfl rfl (y_st (xs := []) rfl RBy.nil) ?_
    refine sx ?_
    refine s_ret2 rfl rfl rfl ⟨c', q1, q2, q3, ?_, rfl⟩
    rw [Ad.txt, if_neg e1, decide_eq_false e1]
  · refine ⟨chk_seq, ?_⟩
    refine sx ?_
    refine s_ret2 rfl rfl rfl ⟨c', q1, q2, q3, ?_, rfl⟩ (Ent.cons (by exact rmq) (Ent.cons (by exact rmq) (Ent.cons (by exact rmq) (Ent.tl Ent.refl))))
    rw [Ad.txt, if_pos e1]
    simp [e1]
def szs (k : Int) : Nat := if k = 0 then 512 else if k = 1 then 1024 else if k = 2 then 2048 else 4096
theorem szs_ok (k : Int) : szOk (szs k) ∧ 512 ≤ szs k ∧ szs k ≤ 4096 := by
  unfold szs szOk
  split
  · simp
  split
  · simp
  split <;> simp
theorem sized_s {a b : Int} (ha : I64 a) (hb : I64 b) : FnV Try.prog w0 H 8 #[.int .i64 a, .int .i64 b] (.tuple #[.int .i64 (szs (pkL a 4)), .int .i64 (16 + pkL b 65521)]) := by
  refine fns_enter Try.func8 rfl rfl rfl ?_
  obtain ⟨k1, k2⟩ := pkL_bd (c := a) (n := 4) (by decide)
  obtain ⟨k3, k4⟩ := pkL_bd (c := b) (n := 65521) (by decide)
  have hget : ∀ k : Int, 0 ≤ k → k < 4 → ([512, 1024, 2048, 4096] : List Int)[k.toNat]? = some (szs k : Int) := fun k h1 h2 => by
    obtain ⟨m, rfl⟩ := Int.eq_ofNat_of_zero_le h1
    match m, h2 with
    | 0, _ => rfl
    | 1, _ => rfl
    | 2, _ => rfl
    | 3, _ => rfl
    | m + 4, h2 => omega
  obtain ⟨k, hk⟩ := Int.eq_ofNat_of_zero_le k1
  rw [hk] at k2 ⊢
  have hg := hget k (by omega) k2
  rw [Int.toNat_natCast] at hg
  have hpa : ∀ H, FnV Try.prog w0 H 10 #[.int .i64 a, .int .i64 4] (.int .i64 (k : Int)) := fun H => by rw [← hk]; exact dpick_s ha (by decide)
  refine sx ?_
  refine s_dr (.one true 1 (.one true 5 (.alt (.one false 0 (.one false 2 (.one true 3 (.alt (.one false 4 (.one false 6 (.one true 7 (.one true 8 (.one true 9 .nil))))) (.one false 6 (.one true 7 (.one false 4 (.one true 8 (.one true 9 .nil))))))))) (.one false 2 (.alt (.one false 0 (.one true 3 (.alt (.one false 4 (.one false 6 (.one true 7 (.one true 8 (.one true 9 .nil))))) (.one false 6 (.one true 7 (.one false 4 (.one true 8 (.one true 9 .nil)))))))) (.one false 6 (.one true 7 (.one false 0 (.one true 3 (.one false 4 (.one true 8 (.one true 9 .nil)))))))))))) mixed (by kernel_rfl) ?_
  refine sx ?_
  refine s_alt ?_ ?_
  · refine s_bsl ([512, 1024, 2048, 4096] : List Int) rfl rfl fun b1 => ?_
    refine s_callV rfl (hpa _) ?_
    refine sx ?_
    refine s_alt ?_ ?_
    · refine s_yA rfl rfl (by exact yy) ?_ (chk_held (by exact entq))
      refine sx ?_
      refine s_callV rfl (dpick_s hb (by decide)) ?_
      refine sx ?_
      exact s_ret2 rfl rfl rfl ⟨rfl, rfl⟩
    · refine s_callV rfl (dpick_s hb (by decide)) ?_
      refine sx ?_
      refine s_yA rfl rfl (by exact yy) ?_ (chk_held (by exact entq))
      refine sx ?_
      exact s_ret2 rfl rfl rfl ⟨rfl, rfl⟩
  · refine s_callV rfl (hpa _) ?_
    refine s_alt ?_ ?_
    · refine s_bsl ([512, 1024, 2048, 4096] : List Int) rfl rfl fun b1 => ?_
      refine sx ?_
      refine s_alt ?_ ?_
      · refine s_yA rfl rfl (by exact yy) ?_ (chk_held (by exact entq))
        refine sx ?_
        refine s_callV rfl (dpick_s hb (by decide)) ?_
        refine sx ?_
        exact s_ret2 rfl rfl rfl ⟨rfl, rfl⟩
      · refine s_callV rfl (dpick_s hb (by decide)) ?_
        refine sx ?_
        refine s_yA rfl rfl (by exact yy) ?_ (chk_held (by exact entq))
        refine sx ?_
        exact s_ret2 rfl rfl rfl ⟨rfl, rfl⟩
    · refine s_callV rfl (dpick_s hb (by decide)) ?_
      refine sx ?_
      refine s_bsl ([512, 1024, 2048, 4096] : List Int) rfl rfl fun b1 => ?_
      refine sx ?_
      refine s_yA rfl rfl (by exact yy) ?_ (chk_held (by exact entq))
      refine sx ?_
      exact s_ret2 rfl rfl rfl ⟨rfl, rfl⟩
theorem beyond_s {a : Option Addr} {c : Nat} {l : List VOp} {size : Nat} (hl : RSl w0 H a c l) (hs : 512 ≤ size ∧ size ≤ 4096) :
    FnV Try.prog w0 H 18 #[.slice a l.length c, .int .i64 size] (.bool (decide (100000000 / size < l.length))) := by
  refine fns_enter Try.func18 rfl rfl rfl ?_
  refine s_kn (Kn.sl hl) fun l1 => ?_
  refine sx ?_
  refine s_yS rfl rfl rfl (y_quov (a := 100000000) (c := size) rfl rfl ⟨by decide, by omega⟩) ?_
  refine sx ?_
  refine s_ret1 rfl rfl ⟨?_, rfl⟩
  congr 1
  apply decide_eq_decide.2
  omega
end Go.Sx
