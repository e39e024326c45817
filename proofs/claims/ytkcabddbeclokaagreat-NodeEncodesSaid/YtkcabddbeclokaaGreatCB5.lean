/- Part of a proof: branch: children are read from bytes, by the program. -/
import Derived.Test.YtkcabddbeclokaaGreatCB4
namespace Go.Sx
open Go Go.Proofs
set_option maxRecDepth 10000
variable {w0 : World} {H : List Ck}
def by8 (xs : Bs) (i : Nat) : Nat := (xs.getD i 0).toNat
theorem by8_lt (xs : Bs) (i : Nat) : by8 xs i < 256 := (xs.getD i 0).toNat_lt
def w16 (xs : Bs) : Nat := by8 xs 0 * 256 + by8 xs 1
def w32 (xs : Bs) : Nat := ((by8 xs 0 * 256 + by8 xs 1) * 256 + by8 xs 2) * 256 + by8 xs 3
theorem w16_lt (xs : Bs) : w16 xs < 65536 := by have := by8_lt xs 0; have := by8_lt xs 1; unfold w16; omega
theorem w32_lt (xs : Bs) : w32 xs < 4294967296 := by have := by8_lt xs 0; have := by8_lt xs 1; have := by8_lt xs 2; have := by8_lt xs 3; unfold w32; omega
def pgs : Nat → Bs → List Int
  | 0, _ => []
  | n + 1, xs => (w32 xs : Int) :: pgs n (xs.drop 4)
def kys : Nat → Bs → Option (List Bs × Bs)
  | 0, xs => some ([], xs)
  | n + 1, xs => if xs.length < 2 ∨ xs.length - 2 < w16 xs then none else (kys n (xs.drop (2 + w16 xs))).map fun r => ((xs.drop 2).take (w16 xs) :: r.1, r.2)
def readK (xs : Bs) : Option (List Int × List Bs) :=
  if xs.length < 2 ∨ xs.length < 2 + 4 * w16 xs then none
  else (kys (w16 xs - 1) (xs.drop (2 + 4 * w16 xs))).bind fun r => if r.2.length = 0 then some (pgs (w16 xs) (xs.drop 2), r.1) else none
theorem pgs_snoc : ∀ (n : Nat) (xs : Bs), pgs (n + 1) xs = pgs n xs ++ [(w32 (xs.drop (4 * n)) : Int)]
  | 0, xs => by simp [pgs]
  | n + 1, xs => by
    rw [pgs, pgs_snoc n (xs.drop 4), pgs, List.drop_drop]
    have : 4 + 4 * n = 4 * (n + 1) := by omega
    rw [this]; rfl
theorem pgs_len : ∀ (n : Nat) (xs : Bs), (pgs n xs).length = n
  | 0, _ => rfl
  | n + 1, xs => by simp [pgs, pgs_len n]
theorem pgs_lt : ∀ (n : Nat) (xs : Bs), ∀ p ∈ pgs n xs, 0 ≤ p ∧ p < 4294967296
  | 0, _, p, h => by simp [pgs] at h
  | n + 1, xs, p, h => by
    rw [pgs] at h
    rcases List.mem_cons.1 h with rfl | h
    · have := w32_lt xs; omega
    · exact pgs_lt n _ p h
abbrev ReadR (xs : Bs) (H : List Ck) : Value → List Ck → Prop := fun v H' => ∃ (k : Kd) (ok : Bool), v = .tuple #[.agg k.cells.toArray, .bool ok] ∧ ok = (readK xs).isSome ∧ (∀ d, readK xs = some d → k.d = d) ∧ (∀ n ∈ k.ps, 0 ≤ n ∧ n < 4294967296) ∧ k.ps.length ≤ 65536 ∧ H' = oK k :: H
/-- Where a reader stands. -/
structure RdI where
  i : Nat
  ra : Option Addr
  rc : Nat
  rs : Bs
  pa : Option Addr
  pc : Nat
structure RkI where
  j : Nat
  ra : Option Addr
  rc : Nat
  rs : Bs
  ka : Option Addr
  kc : Nat
  ks : List SB
theorem Ent.oK {k : Kd} {R1 R2 R3 H' : List Ck} (h1 : Rm (ol 3 k.pa k.pc k.ps) H R1) (h2 : Rm (ol 44 k.ka k.kc k.ks) R1 R2) (h3 : Rm (fam 5 k.ks) R2 R3) (h : Ent R3 H') : Ent H (Sx.oK k :: H') := by
  refine Ent.trans (H' := ol 3 k.pa k.pc k.ps :: ol 44 k.ka k.kc k.ks :: fam 5 k.ks :: H') ?_ (Ent.star (L := [ol 3 k.pa k.pc k.ps, ol 44 k.ka k.kc k.ks, fam 5 k.ks]) Ent.refl)
  exact Ent.cons h1 (Ent.cons h2 (Ent.cons h3 h))
theorem kys_keep {n : Nat} {xs : Bs} {ks : List Bs} (h1 : ¬ xs.length < 2) (h2 : ¬ xs.length - 2 < w16 xs) {o : Option (List Bs × Bs)} (h : o = (kys (n + 1) xs).map fun r => (ks ++ r.1, r.2)) :
    o = (kys n (xs.drop (2 + w16 xs))).map fun r => (ks ++ [(xs.drop 2).take (w16 xs)] ++ r.1, r.2) := by
  rw [h, kys, if_neg (by omega), Option.map_map]
  congr 1
  funext r
  simp
theorem readR_none {xs : Bs} {k : Kd} (e : readK xs = none) (h1 : ∀ n ∈ k.ps, 0 ≤ n ∧ n < 4294967296) (h2 : k.ps.length ≤ 65536) : ReadR xs H (.tuple #[.agg k.cells.toArray, .bool false]) (oK k :: H) :=
  ⟨k, false, rfl, by rw [e]; rfl, fun d h => (by rw [e] at h; cases h), h1, h2, rfl⟩
set_option maxHeartbeats 2000000 in
theorem bread_s {a : Option Addr} {c : Nat} {xs : Bs} (hx : RBy w0 H a c xs) : FnS Tryz.prog w0 H 84 #[.slice a xs.length c] (ReadR xs H) := by
  refine fns_enter Tryz.func84 rfl rfl rfl ?_
  refine s_kn (Kn.by hx) fun l1 => ?_
  simp only [maxLen] at l1
  have hnil : ∀ {H : List Ck}, Ent H (oK kd0 :: H) := fun {H} => Ent.nilS.trans ((Ent.head Ent.nilS).trans ((Ent.head (Ent.head fam_nil)).trans (Ent.oK (k := kd0) (by exact Rm.tl Rm.hd) (by exact Rm.hd) (by exact Rm.hd) Ent.refl)))
  refine sx ?_
  refine s_alloc fun b2 => ?_
  refine sx ?_
  refine s_alloc fun b4 => ?_
  refine sx ?_
  refine s_if rfl (fun t1 => ?_) (fun t1 => ?_)
  · refine sx ?_
    have e : readK xs = none := by rw [readK, if_pos (.inl (by omega))]
    exact s_retcv rfl rfl rfl (by exact at_) rfl (readR_none (k := kd0) e (fun n h => by cases h) (Nat.zero_le _)) ((Ent.tl (Ent.tl Ent.refl)).trans hnil)
  have g0 := by8_lt xs 0
  have g1 := by8_lt xs 1
  simp only [by8] at g0 g1
  refine sx ?_; refine s_dr (.one true 0 (.one true 1 (.one true 2 (.one true 3 (.one true 4 (.one true 5 (.one true 6 (.one true 7 (.one true 8 (.one true 9 (.one true 10 .nil))))))))))) mixed (by kernel_rfl) ?_; refine sx ?_
  refine s_rw (t := 5) (v' := .int .i64 ((w16 xs : Nat) : Int)) rfl rfl ?_
  have hw := w16_lt xs
  generalize hm : w16 xs = m at hw
  refine sx ?_
  refine s_yS rfl rfl rfl (y_slF (k := 2) rfl rfl (by omega)) ?_
  have hx2 := hx.drop (k := 2) (by omega)
  have hl2 : (xs.drop 2).length = xs.length - 2 := List.length_drop
  refine s_rw (t := 22) (v' := .slice (sl a c 2 1) (xs.drop 2).length (c - 2)) rfl (by rw [hl2]) ?_
  refine sx ?_
  refine s_if rfl (fun t2 => ?_) (fun t2 => ?_)
  · refine sx ?_
    have e : readK xs = none := by rw [readK, if_pos (.inr (by rw [hm]; omega))]
    exact s_retcv rfl rfl rfl (by exact at_) rfl (readR_none (k := kd0) e (fun n h => by cases h) (Nat.zero_le _)) ((Ent.tl (Ent.tl Ent.refl)).trans hnil)
  refine sx ?_
  refine s_loop (fun i : RdI => [(0, .slice i.ra i.rs.length i.rc), (2, .pointer (some ⟨b2, 0, none⟩)), (3, .bool false), (4, .pointer (some ⟨b4, 0, none⟩)), (5, .int .i64 m), (29, .int .i64 m), (30, .int .i64 i.i)])
    (fun i => .hb b4 25 [.slice i.pa (pgs i.i (xs.drop 2)).length i.pc, .slice none 0 0] :: ol 3 i.pa i.pc (pgs i.i (xs.drop 2)) :: .hb b2 25 [.slice none 0 0, .slice none 0 0] :: H)
    (fun i => i.i ≤ m ∧ RBy w0 H i.ra i.rc i.rs ∧ i.rs = xs.drop (2 + 4 * i.i)) (fun i => m - i.i) ⟨0, sl a c 2 1, c - 2, xs.drop 2, none, 0⟩ ⟨Nat.zero_le _, hx2, rfl⟩ ?_
  rintro ⟨i, ra, rc, rs, pa, pc⟩ ⟨hi, hr, hrs⟩
  simp only at hi hr hrs ⊢
  have hpl := pgs_len i (xs.drop 2)
  refine sx ?_
  refine s_if rfl (fun t3 => ?_) (fun t3 => ?_)
  · have hrl : rs.length = xs.length - (2 + 4 * i) := by rw [hrs, List.length_drop]
    refine s_kn (Kn.by (RBy.tl (RBy.tl (RBy.tl hr)))) fun l3 => ?_
    simp only [maxLen] at l3
    have g0 := by8_lt rs 0
    have g1 := by8_lt rs 1
    have g2 := by8_lt rs 2
    have g3 := by8_lt rs 3
    simp only [by8] at g0 g1 g2 g3
    obtain ⟨A, hA⟩ : ∃ A : Nat, A = (rs.getD 0 0).toNat * 16777216 := ⟨_, rfl⟩
    obtain ⟨B, hB⟩ : ∃ B : Nat, B = (rs.getD 1 0).toNat * 65536 := ⟨_, rfl⟩
    obtain ⟨AB, hAB⟩ : ∃ AB : Nat, AB = A + B := ⟨_, rfl⟩
    obtain ⟨ABC, hABC⟩ : ∃ ABC : Nat, ABC = AB + (rs.getD 2 0).toNat * 256 := ⟨_, rfl⟩
    have hW : w32 rs = ABC + (rs.getD 3 0).toNat := by simp only [w32, by8]; omega
    refine sx ?_; refine s_drH (.hb b2 25 [.slice none 0 0, .slice none 0 0] :: H) (.one true 0 (.one true 2 (.one true 3 (.one true 4 (.one true 5 (.one true 6 (.one true 7 (.one true 8 (.one true 9 (.one true 10 (.one true 11 (.one true 12 (.one true 13 (.one true 14 (.one true 15 (.one true 16 (.one true 17 (.one true 18 (.one true 19 (.one true 20 (.one true 21 (.one true 22 (.one true 23 (.alt (.one false 1 (.one false 24 (.one false 25 (.one true 26 (.one false 27 .nil))))) (.one false 24 (.one false 1 (.one false 25 (.one true 26 (.one false 27 .nil))))))))))))))))))))))))))))) mixed (by kernel_rfl) ?_; refine sx ?_
    refine s_yH rfl rfl rfl (y_shl24E (A := A) rfl (by omega) hA) ?_
    refine sx ?_
    refine s_yH rfl rfl rfl (y_shl16E (A := B) rfl (by omega) hB) ?_
    refine s_yH rfl rfl rfl (y_orE 24 (W := AB) rfl rfl (by omega) (by omega) (by omega) (by omega) hAB) ?_
    refine sx ?_
    refine s_yH rfl rfl rfl (y_orE 16 (W := ABC) rfl rfl (by omega) (by omega) (by omega) (by omega) hABC) ?_
    refine sx ?_
    refine s_yH rfl rfl rfl (y_orE 8 (W := w32 rs) rfl rfl (by omega) (by omega) (by omega) (by omega) hW) ?_
    have e : pgs i (xs.drop 2) ++ [((w32 rs : Nat) : Int)] = pgs (i + 1) (xs.drop 2) := by
      rw [pgs_snoc, List.drop_drop, ← hrs]
    refine s_alt ?_ ?_
    · refine s_yA rfl rfl (by exact yy) ?_ (chk_held (by exact ent))
      refine s_bsl [((w32 rs : Nat) : Int)] rfl rfl fun b9 => ?_
      refine s_app ?_
      intro a2 c2
      rw [e]
      refine sx ?_
      refine s_yS rfl rfl rfl (y_slF (k := 4) rfl rfl (by omega)) ?_
      refine s_rw (t := 60) (v' := .slice (sl ra rc 4 1) (rs.drop 4).length (rc - 4)) rfl (by rw [List.length_drop]) ?_
      refine sx ?_
      exact s_again ⟨i + 1, sl ra rc 4 1, rc - 4, rs.drop 4, a2, c2⟩ ⟨by simp only; omega, hr.drop (by omega), by simp only; rw [hrs, List.drop_drop]; congr 1⟩ (by simp only; omega)
    · refine s_bsl [((w32 rs : Nat) : Int)] rfl rfl fun b9 => ?_
      refine s_yA rfl rfl (by exact yy) ?_ (chk_held (by exact ent))
      refine s_app ?_
      intro a2 c2
      rw [e]
      refine sx ?_
      refine s_yS rfl rfl rfl (y_slF (k := 4) rfl rfl (by omega)) ?_
      refine s_rw (t := 60) (v' := .slice (sl ra rc 4 1) (rs.drop 4).length (rc - 4)) rfl (by rw [List.length_drop]) ?_
      refine sx ?_
      exact s_again ⟨i + 1, sl ra rc 4 1, rc - 4, rs.drop 4, a2, c2⟩ ⟨by simp only; omega, hr.drop (by omega), by simp only; rw [hrs, List.drop_drop]; congr 1⟩ (by simp only; omega)
  obtain rfl : i = m := by omega
  have hps : ∀ n ∈ pgs i (xs.drop 2), 0 ≤ n ∧ n < 4294967296 := pgs_lt _ _
  have hrK : readK xs = (kys (i - 1) rs).bind fun r => if r.2.length = 0 then some (pgs i (xs.drop 2), r.1) else none := by
    rw [readK, hm, if_neg (by omega), ← hrs]
  generalize hPS : pgs i (xs.drop 2) = PS at hpl hps hrK
  refine sx ?_
  refine s_loop (fun q : RkI => [(0, .slice q.ra q.rs.length q.rc), (2, .pointer (some ⟨b2, 0, none⟩)), (3, .bool false), (4, .pointer (some ⟨b4, 0, none⟩)), (63, .int .i64 ((i : Int) - 1)), (64, .int .i64 q.j)])
    (fun q => .hb b4 25 [.slice pa PS.length pc, .slice q.ka q.ks.length q.kc] :: ol 3 pa pc PS :: ol 44 q.ka q.kc q.ks :: fam 5 q.ks :: .hb b2 25 [.slice none 0 0, .slice none 0 0] :: H)
    (fun q => q.j ≤ i - 1 ∧ RBy w0 H q.ra q.rc q.rs ∧ (kys (i - 1) rs = (kys (i - 1 - q.j) q.rs).map fun r => (q.ks.map SB.xs ++ r.1, r.2)) ∧ q.ks.length = q.j) (fun q => i - 1 - q.j) ⟨0, ra, rc, rs, none, 0, []⟩ ⟨Nat.zero_le _, hr, by simp only [List.map_nil, List.nil_append, Nat.sub_zero]; cases kys (i - 1) rs <;> rfl, rfl⟩ ?_ (he := by
      refine Ent.cons (by exact rm) ?_
      refine Ent.cons (by exact rm) ?_
      refine Ent.nilS.trans (Ent.head ?_)
      refine fam_nil.trans (Ent.head ?_)
      exact ent)
  rintro ⟨j, ra, rc, rs', ka, kc, ks⟩ ⟨hj, hr', hk, hkl⟩
  simp only at hj hr' hk hkl ⊢
  have hend : readK xs = none → ReadR xs H (.tuple #[.agg (Kd.cells ⟨pa, pc, PS, ka, kc, ks⟩).toArray, .bool false]) (oK ⟨pa, pc, PS, ka, kc, ks⟩ :: H) := fun e => readR_none (k := ⟨pa, pc, PS, ka, kc, ks⟩) e hps (by show PS.length ≤ _; omega)
  have hsh : Ent (.hb b4 25 [.slice pa PS.length pc, .slice ka ks.length kc] :: ol 3 pa pc PS :: ol 44 ka kc ks :: fam 5 ks :: .hb b2 25 [.slice pa PS.length pc, .slice ka ks.length kc] :: H) (oK ⟨pa, pc, PS, ka, kc, ks⟩ :: H) :=
    Ent.oK (k := ⟨pa, pc, PS, ka, kc, ks⟩) (by exact rm) (by exact rm) (by exact rm) (by exact ent)
  refine sx ?_
  refine s_if rfl (fun t4 => ?_) (fun t4 => ?_)
  · obtain ⟨n, hn⟩ : ∃ n, i - 1 - j = n + 1 := ⟨i - 2 - j, by omega⟩
    rw [hn] at hk
    refine sx ?_
    refine s_if rfl (fun t5 => ?_) (fun t5 => ?_)
    · have e : readK xs = none := by
        rw [hrK, hk, kys, if_pos (.inl (by omega))]; rfl
      refine sx ?_
      exact s_retcv rfl rfl rfl (by exact at_) rfl (hend e) hsh
    refine s_kn (Kn.by (RBy.tl (RBy.tl (RBy.tl (RBy.tl (RBy.tl hr')))))) fun l3 => ?_
    simp only [maxLen] at l3
    have g0 := by8_lt rs' 0
    have g1 := by8_lt rs' 1
    simp only [by8] at g0 g1
    refine sx ?_; refine s_dr (.one true 0 (.one true 1 (.one true 2 (.one true 3 (.one true 4 (.one true 5 (.one true 6 (.one true 7 (.one true 8 (.one true 9 (.one true 10 .nil))))))))))) mixed (by kernel_rfl) ?_; refine sx ?_
    refine s_rwC (t := 6) (v' := .int .i64 ((w16 rs' : Nat) : Int)) rfl rfl ?_
    have hwd : (rs'.getD 0 0).toNat * 256 + (rs'.getD 1 0).toNat = w16 rs' := rfl
    have hw2 := w16_lt rs'
    have hkk := fun h1 h2 => kys_keep (n := n) (xs := rs') h1 h2 hk
    have hno : rs'.length - 2 < w16 rs' → readK xs = none := fun h => by
      rw [hrK, hk, kys, if_pos (.inr h)]; rfl
    generalize w16 rs' = g at hw2 hkk hno hwd
    refine sx ?_
    refine s_if rfl (fun t6 => ?_) (fun t6 => ?_)
    · refine sx ?_
      exact s_retcv rfl rfl rfl (by exact at_) rfl (hend (hno (by omega))) hsh
    have hkk := hkk (by omega) (by omega)
    have hrd := hr'.sl (j := 2) (k := 2 + g) (by omega) (by omega)
    have hdl : ((rs'.take (2 + g)).drop 2).length = g := by rw [List.length_drop, List.length_take]; omega
    have hde : (rs'.drop 2).take g = (rs'.take (2 + g)).drop 2 := by rw [List.drop_take]; congr 1; omega
    rw [hde] at hkk
    generalize (rs'.take (2 + g)).drop 2 = key at hrd hdl hkk
    refine sx ?_; refine s_drH (ol 3 pa pc PS :: .hb b2 25 [.slice none 0 0, .slice none 0 0] :: H) (.one true 0 (.one true 2 (.one true 3 (.one true 4 (.one true 5 (.alt (.one false 1 (.one false 6 (.one false 7 (.one false 8 (.one true 9 (.one false 10 .nil)))))) (.one false 6 (.alt (.one false 1 (.one false 7 (.one false 8 (.one true 9 (.one false 10 .nil))))) (.one false 7 (.one false 1 (.one false 8 (.one true 9 (.one false 10 .nil))))))))))))) mixed (by kernel_rfl) ?_; refine sx ?_
    refine s_rw (t := 90) rfl (ci (by omega : _ = ((2 + g : Nat) : Int))) ?_
    refine s_yH rfl rfl rfl (y_slB (j := 2) (k := 2 + g) rfl rfl rfl (by omega)) ?_
    refine s_rw (t := 91) (v' := .slice (sl ra rc 2 1) key.length (rc - 2)) rfl (by rw [hdl]; congr 1; omega) ?_
    refine s_alt ?_ ?_
    · refine s_yA rfl rfl (by exact yy) ?_ (chk_held (by exact ent))
      refine s_call rfl (own_s (xs := key) (by exact rby) (by omega)) ?_
      rintro _ _ ⟨a1, rfl, rfl⟩
      refine ⟨chk_held (by exact ent), ?_⟩
      refine s_bsl [(⟨a1, key.length, key⟩ : SB)] rfl rfl fun b9 => ?_
      refine s_app ?_
      intro ka' kc'
      refine sx ?_
      refine s_rw (t := 98) rfl (ci (by omega : _ = ((2 + g : Nat) : Int))) ?_
      refine s_yS rfl rfl rfl (y_slF (k := 2 + g) rfl rfl (by omega)) ?_
      refine s_rw (t := 99) (v' := .slice (sl ra rc (2 + g) 1) (rs'.drop (2 + g)).length (rc - (2 + g))) rfl (by rw [List.length_drop]) ?_
      refine sx ?_
      refine s_again ⟨j + 1, sl ra rc (2 + g) 1, rc - (2 + g), rs'.drop (2 + g), ka', kc', ks ++ [⟨a1, key.length, key⟩]⟩ ⟨by simp only; omega, hr'.drop (by omega), ?_, by simp only [List.length_append, List.length_cons, List.length_nil]; omega⟩ (by simp only; omega) (he := ?_)
      · simp only [List.map_append, List.map_cons, List.map_nil]
        rw [show i - 1 - (j + 1) = n by omega]
        exact hkk
      · refine Ent.cons (by exact rm) ?_
        refine Ent.cons (by exact rm) ?_
        refine Ent.cons (by exact rm) ?_
        exact Ent.famS (by exact rm) (by exact rm) (by exact ent)
    · refine s_call rfl (own_s (xs := key) (by exact rby) (by omega)) ?_
      rintro _ _ ⟨a1, rfl, rfl⟩
      refine ⟨chk_held (by exact ent), ?_⟩
      refine s_alt ?_ ?_
      · refine s_yA rfl rfl (by exact yy) ?_ (chk_held (by exact ent))
        refine s_bsl [(⟨a1, key.length, key⟩ : SB)] rfl rfl fun b9 => ?_
        refine s_app ?_
        intro ka' kc'
        refine sx ?_
        refine s_rw (t := 98) rfl (ci (by omega : _ = ((2 + g : Nat) : Int))) ?_
        refine s_yS rfl rfl rfl (y_slF (k := 2 + g) rfl rfl (by omega)) ?_
        refine s_rw (t := 99) (v' := .slice (sl ra rc (2 + g) 1) (rs'.drop (2 + g)).length (rc - (2 + g))) rfl (by rw [List.length_drop]) ?_
        refine sx ?_
        refine s_again ⟨j + 1, sl ra rc (2 + g) 1, rc - (2 + g), rs'.drop (2 + g), ka', kc', ks ++ [⟨a1, key.length, key⟩]⟩ ⟨by simp only; omega, hr'.drop (by omega), ?_, by simp only [List.length_append, List.length_cons, List.length_nil]; omega⟩ (by simp only; omega) (he := ?_)
        · simp only [List.map_append, List.map_cons, List.map_nil]
          rw [show i - 1 - (j + 1) = n by omega]
          exact hkk
        · refine Ent.cons (by exact rm) ?_
          refine Ent.cons (by exact rm) ?_
          refine Ent.cons (by exact rm) ?_
          exact Ent.famS (by exact rm) (by exact rm) (by exact ent)
      · refine s_bsl [(⟨a1, key.length, key⟩ : SB)] rfl rfl fun b9 => ?_
        refine s_yA rfl rfl (by exact yy) ?_ (chk_held (by exact ent))
        refine s_app ?_
        intro ka' kc'
        refine sx ?_
        refine s_rw (t := 98) rfl (ci (by omega : _ = ((2 + g : Nat) : Int))) ?_
        refine s_yS rfl rfl rfl (y_slF (k := 2 + g) rfl rfl (by omega)) ?_
        refine s_rw (t := 99) (v' := .slice (sl ra rc (2 + g) 1) (rs'.drop (2 + g)).length (rc - (2 + g))) rfl (by rw [List.length_drop]) ?_
        refine sx ?_
        refine s_again ⟨j + 1, sl ra rc (2 + g) 1, rc - (2 + g), rs'.drop (2 + g), ka', kc', ks ++ [⟨a1, key.length, key⟩]⟩ ⟨by simp only; omega, hr'.drop (by omega), ?_, by simp only [List.length_append, List.length_cons, List.length_nil]; omega⟩ (by simp only; omega) (he := ?_)
        · simp only [List.map_append, List.map_cons, List.map_nil]
          rw [show i - 1 - (j + 1) = n by omega]
          exact hkk
        · refine Ent.cons (by exact rm) ?_
          refine Ent.cons (by exact rm) ?_
          refine Ent.cons (by exact rm) ?_
          exact Ent.famS (by exact rm) (by exact rm) (by exact ent)
  · have hj' : i - 1 - j = 0 := by omega
    rw [hj', kys] at hk
    refine sx ?_
    have hfin : readK xs = if rs'.length = 0 then some (PS, ks.map SB.xs) else none := by
      rw [hrK, hk]
      simp only [Option.map_some, Option.bind_some, List.append_nil]
    refine s_retcv rfl rfl rfl (by exact at_) rfl ⟨⟨pa, pc, PS, ka, kc, ks⟩, _, rfl, ?_, fun d h => ?_, hps, by show PS.length ≤ _; omega, rfl⟩ hsh
    · rw [hfin]
      by_cases h0 : rs'.length = 0
      · rw [if_pos h0, decide_eq_true (by omega)]; rfl
      · rw [if_neg h0, decide_eq_false (by omega)]; rfl
    · rw [hfin] at h
      split at h
      · cases h; rfl
      · cases h
end Go.Sx
