/- Part of a proof: several parts of a walk, one behind the other. -/
import Derived.Test.YtpnhoafmlhlfgaaGreatCV0j
import Derived.Test.YtpnhoafmlhlfgaaGreatCKB
import Derived.Test.YtpnhoafmlhlfgaaGreatCO2j
namespace Go.Sx
open Go Go.Proofs
set_option maxRecDepth 10000
variable {w0 : World} {H : List Ck}
structure Mg where
  st : Int
  kd : Int
  la : Option Addr
  lc : Nat
  lo : Bs
  ha : Option Addr
  hc : Nat
  hi : Bs
  va : Option Addr
  vc : Nat
  v : Bs
def Mg.cells (m : Mg) : List Value := [.int .u64 m.st, .int .i64 m.kd, .slice m.la m.lo.length m.lc, .slice m.ha m.hi.length m.hc, .slice m.va m.v.length m.vc]
abbrev Mg.d (m : Mg) : MD := ⟨m.st, m.kd, m.lo, m.hi, m.v⟩
instance : Cel Mg := ⟨5, Mg.cells, fun _ => rfl, fun _ => rfl, by decide⟩
instance : ElT Tryz.prog 71 Mg := ⟨trivial⟩
/-- Its bytes can be read. -/
structure RMg (w0 : World) (H : List Ck) (m : Mg) : Prop where
  lo : RBy w0 H m.la m.lc m.lo
  hi : RBy w0 H m.ha m.hc m.hi
  v : RBy w0 H m.va m.vc m.v
theorem RMg.tl {m : Mg} {d : Ck} (h : RMg w0 H m) : RMg w0 (d :: H) m := ⟨h.lo.tl, h.hi.tl, h.v.tl⟩
theorem RMg.ent {m : Mg} {H' : List Ck} (h : RMg w0 H' m) (e : Ent H H') : RMg w0 H m := ⟨h.lo.ent e, h.hi.ent e, h.v.ent e⟩
/-- A message's bytes of one's own. -/
@[reducible] def oM (m : Mg) : List Ck := [ob m.la m.lc m.lo, ob m.ha m.hc m.hi, ob m.va m.vc m.v]
theorem RMg.oM {m : Mg} : RMg w0 (oM m ++ H) m := ⟨RBy.hd, RBy.hd.tl, RBy.hd.tl.tl⟩
theorem rmg {m : Mg} (h : RMg w0 H m := by (repeat (first | assumption | apply RMg.tl)); first | done | fail) : RMg w0 H m := h
/-- Messages whose bytes can be read. -/
structure RMs (w0 : World) (H : List Ck) (a : Option Addr) (c : Nat) (ms : List Mg) : Prop where
  sl : RSl w0 H a c ms
  el : ∀ m ∈ ms, RMg w0 H m
theorem RMs.tl {a : Option Addr} {c : Nat} {ms : List Mg} {d : Ck} (h : RMs w0 H a c ms) : RMs w0 (d :: H) a c ms := ⟨h.sl.tl, fun m hm => (h.el m hm).tl⟩
theorem RMs.ent {a : Option Addr} {c : Nat} {ms : List Mg} {H' : List Ck} (h : RMs w0 H' a c ms) (e : Ent H H') : RMs w0 H a c ms := ⟨h.sl.ent e, fun m hm => (h.el m hm).ent e⟩
theorem rms {a : Option Addr} {c : Nat} {ms : List Mg} (h : RMs w0 H a c ms := by (repeat (first | assumption | apply RMs.tl)); first | done | fail) : RMs w0 H a c ms := h
end Go.Sx
namespace Go.Sx
open Go Go.Proofs
set_option maxRecDepth 10000
variable {w0 : World} {H : List Ck}
theorem qcmp0_s {a a' : Option Addr} {c c' : Nat} {xs ys : Bs} (ha : RBy w0 H a c xs) (hb : RBy w0 H a' c' ys) : FnV Tryz.prog w0 H 67 #[.slice a xs.length c, .slice a' ys.length c'] (.int .i64 (cmp xs ys)) := by
  refine fns_enter Tryz.func67 rfl rfl rfl ?_
  refine s_kn (Kn.by ha) fun l1 => s_kn (Kn.by hb) fun l2 => ?_
  simp only [maxLen] at l1 l2
  have hc := cmp_common xs ys
  refine sx ?_
  refine s_loop (fun k : Nat => [(0, .slice a xs.length c), (1, .slice a' ys.length c'), (5, .int .i64 ((min xs.length ys.length : Nat) : Int)), (6, .int .i64 k)]) (fun _ => H) (fun k => k ≤ xs.length ∧ k ≤ ys.length ∧ ∀ i, i < k → xs.getD i 0 = ys.getD i 0) (fun k => xs.length - k) 0 ⟨Nat.zero_le _, Nat.zero_le _, fun i hi => absurd hi (Nat.not_lt_zero _)⟩ ?_
  rintro k ⟨h1, h2, h3⟩
  refine sx ?_
  refine s_if rfl (fun t1 => ?_) (fun t1 => ?_)
  · refine sx ?_; refine s_dr (.one true 0 (.one true 1 (.one true 2 (.one true 3 (.one true 4 (.one true 5 (.one true 6 (.one true 7 (.one true 8 .nil))))))))) mixed (by kernel_rfl) ?_; refine sx ?_
    refine s_if rfl (fun t2 => ?_) (fun t2 => ?_)
    · have hne : xs.getD k 0 ≠ ys.getD k 0 := fun e => by rw [e] at t2; exact absurd t2 (by simp)
      have hk := common_eq xs ys k (by omega) (by omega) h3 (.inr (.inr hne))
      refine sx ?_
      refine s_ret1 rfl rfl ⟨?_, rfl⟩
      rw [hc, hk, if_neg (by omega), if_neg (by omega), if_neg]
      rintro (h | h)
      · omega
      · exact absurd (UInt8.lt_asymm h) (by simpa [UInt8.lt_iff_toNat_lt] using t2)
    refine sx ?_; refine s_dr (.one true 0 (.one true 1 (.one true 2 (.one true 3 (.one true 4 (.one true 5 (.one true 6 (.one true 7 (.one true 8 .nil))))))))) mixed (by kernel_rfl) ?_; refine sx ?_
    refine s_if rfl (fun t3 => ?_) (fun t3 => ?_)
    · have hne : xs.getD k 0 ≠ ys.getD k 0 := fun e => by rw [e] at t3; exact absurd t3 (by simp)
      have hk := common_eq xs ys k (by omega) (by omega) h3 (.inr (.inr hne))
      refine sx ?_
      refine s_ret1 rfl rfl ⟨?_, rfl⟩
      rw [hc, hk, if_neg (by omega), if_neg (by omega), if_pos (.inr (by simpa [UInt8.lt_iff_toNat_lt] using t3))]
    · have he : xs.getD k 0 = ys.getD k 0 := by
        apply UInt8.toNat_inj.1
        simp only [UInt8.lt_iff_toNat_lt] at t2 t3
        omega
      refine sx ?_
      refine s_again (k + 1) ⟨by omega, by omega, fun i hi => ?_⟩ (by omega)
      rcases Nat.lt_or_eq_of_le (Nat.lt_succ_iff.1 hi) with h | rfl
      · exact h3 i h
      · exact he
  have hk := common_eq xs ys k (by omega) (by omega) h3 (by omega)
  refine sx ?_
  refine s_if rfl (fun t2 => ?_) (fun t2 => ?_)
  · refine sx ?_
    refine s_ret1 rfl rfl ⟨?_, rfl⟩
    rw [hc, hk, if_neg (by omega), if_pos (by omega)]
  refine sx ?_
  refine s_if rfl (fun t3 => ?_) (fun t3 => ?_)
  · refine sx ?_
    refine s_ret1 rfl rfl ⟨?_, rfl⟩
    rw [hc, hk, if_neg (by omega), if_neg (by omega), if_pos (.inl (by omega))]
  · refine sx ?_
    refine s_ret1 rfl rfl ⟨?_, rfl⟩
    rw [hc, hk, if_pos (by omega)]
theorem qless0_s {a a' : Option Addr} {c c' : Nat} {xs ys : Bs} (ha : RBy w0 H a c xs) (hb : RBy w0 H a' c' ys) : FnV Tryz.prog w0 H 89 #[.slice a xs.length c, .slice a' ys.length c'] (.bool (decide (cmp xs ys < 0))) := by
  refine fns_enter Tryz.func89 rfl rfl rfl ?_
  refine sx ?_
  refine s_callV rfl (qcmp0_s ha hb) ?_
  refine sx ?_
  exact s_ret1 rfl rfl ⟨rfl, rfl⟩
theorem qcopy0_s {a : Option Addr} {c : Nat} {xs : Bs} (ha : RBy w0 H a c xs) (hx : xs.length ≤ 140737488355328) : FnS Tryz.prog w0 H 27 #[.slice a xs.length c] (fun v H' => ∃ a' , v = .slice a' xs.length xs.length ∧ H' = ob a' xs.length xs :: H) := by
  refine fns_enter Tryz.func27 rfl rfl rfl ?_
  refine sx ?_
  refine s_make rfl rfl (by omega) fun b => ?_
  refine sx ?_
  refine s_copy rfl rfl ?_ (ys := xs) (hk0 := by simp)
  have e : xs.take (List.replicate xs.length (0 : UInt8)).length ++ (List.replicate xs.length (0 : UInt8)).drop xs.length = xs := by simp
  rw [e]
  refine sx ?_
  exact s_ret1 rfl rfl ⟨_, rfl, rfl⟩
end Go.Sx
namespace Go.Sx
open Go Go.Proofs
set_option maxRecDepth 10000
variable {w0 : World} {H : List Ck}
end Go.Sx
namespace Go.Sx
open Go Go.Proofs
set_option maxRecDepth 10000
section
variable {P : Program} {S : World → Prop} {l : List (Nat × Value)} {d : Option Tmp} {ty : TypeId} {pos : String} {af : Array Edge} {g : Option (Nat × Bool)}
theorem pow_8 (j : Nat) : (2 : Int) ^ (8 * j) = ((256 ^ j : Nat) : Int) := by
  rw [Int.pow_mul]
  simp
/-- v >> (8 * j). -/
theorem y_shrv {x y : Operand} {T U : TypeId} {v j : Nat} {s : Int} (hx : ev l x = some (.int .u64 (v : Int))) (hy : ev l y = some (.int .i64 s)) (hs : s = 8 * (j : Int)) (hj : j ≤ 8) :
    Y P S ⟨d, .binOp .shr T x y U, ty, pos, af, g⟩ l (.int .u64 ((v / 256 ^ j : Nat) : Int)) := .mk fun w _ ρ hρ => by
  subst hs
  have h1 : ¬ (8 * (j : Int) < 0) := by omega
  have h2 : min (8 * (j : Int)).toNat IntKind.u64.bits = 8 * j := by
    have : IntKind.u64.bits = 64 := rfl
    omega
  have h3 : (v : Int).fdiv (2 ^ (8 * j)) = ((v / 256 ^ j : Nat) : Int) := by
    rw [pow_8, Int.fdiv_eq_ediv_of_nonneg _ (Int.natCast_nonneg _)]
    rfl
  simp only [execOp, hρ _ _ hx, hρ _ _ hy, eqGuard_shr, binOp_shr, Op.shift, if_neg h1, h2, h3]
  rfl
end
theorem ofInt_nat (n : Nat) : UInt8.ofInt (n : Int) = UInt8.ofNat n := ofInt_eq (by rw [UInt8.toNat_ofNat']; omega)
theorem wrap_u64 {n : Nat} (h : n < 18446744073709551616) : IntKind.u64.wrap (n : Int) = (n : Int) := by
  simp only [IntKind.wrap, IntKind.bits, IntKind.signed, Bool.false_and, Bool.false_eq_true, if_false]
  omega
variable {w0 : World} {H : List Ck}
theorem mcopied_s {a : Option Addr} {c : Nat} {xs : Bs} (ha : RBy w0 H a c xs) (hx : xs.length ≤ 140737488355328) : FnS Tryz.prog w0 H 53 #[.slice a xs.length c] (fun v H' => ∃ a', v = .slice a' xs.length xs.length ∧ H' = ob a' xs.length xs :: H) := by
  refine fns_enter Tryz.func53 rfl rfl rfl ?_
  refine sx ?_
  refine s_call rfl (bclone_s ha hx) ?_
  rintro _ _ ⟨a1, c1, rfl, rfl⟩
  refine ⟨chk_seq, ?_⟩
  refine s_call rfl clip_s ?_
  rintro _ _ ⟨rfl, rfl⟩
  refine ⟨chk_seq, ?_⟩
  refine sx ?_
  exact s_ret1 rfl rfl ⟨a1, rfl, rfl⟩
abbrev NumR (xs : Bs) (k v : Nat) (H : List Ck) : Value → List Ck → Prop := fun r H' => ∃ a' c', r = .slice a' (xs ++ nbN k v).length c' ∧ H' = ob a' c' (xs ++ nbN k v) :: H
theorem nb_snoc {xs : Bs} {k v i : Nat} (h : i < k) : xs ++ (nbN k v).take i ++ [UInt8.ofNat (v / 256 ^ (k - 1 - i))] = xs ++ (nbN k v).take (i + 1) := by
  rw [snocT (nbN_get k v i h), List.append_assoc]
/-- What Encode gives: bytes, or none. -/
def encL (size : Int) (l : List MD) : Bs := if chkM size l = 0 then layM l else []
theorem layM_step {l : List MD} {i : Nat} {m : MD} (h : l[i]? = some m) : nbN 4 l.length ++ (l.take (i + 1)).flatMap encM1 = nbN 4 l.length ++ (l.take i).flatMap encM1 ++ nbN 8 m.st.toNat ++ nbN 1 m.kd.toNat ++ nbN 2 m.lo.length ++ nbN 2 (tailM m).length ++ m.lo ++ tailM m := by
  rw [flatS encM1 h, encM1]
  simp only [List.append_assoc]
theorem lay_len {l : List MD} {i : Nat} {m : MD} (h : l[i]? = some m) : (nbN 4 l.length ++ (l.take i).flatMap encM1).length + lenM m ≤ 4 + sumM l := by
  have h1 := sumM_get h
  have h2 := sumM_take l (i + 1)
  rw [List.length_append, nbN_len, encs_len]
  omega
end Go.Sx
