/- Part of a proof: branch: children are read from bytes, by the document. -/
import Derived.Test.YtkcabddbeclokaaCB5
namespace Go.Sx
open Go Go.Proofs
set_option maxRecDepth 10000
variable {w0 : World} {H : List Ck}
theorem by8_drop (xs : Bs) (p k : Nat) : by8 (xs.drop p) k = (xs.getD (p + k) 0).toNat := by
  simp [by8, List.getD_eq_getElem?_getD, List.getElem?_drop]
structure RdJ where
  i : Nat
  pa : Option Addr
  pc : Nat
structure RkJ where
  j : Nat
  p : Nat
  ka : Option Addr
  kc : Nat
  ks : List SB
set_option maxHeartbeats 4000000 in
theorem rread_s {a : Option Addr} {c : Nat} {xs : Bs} (hx : RBy w0 H a c xs) (hxl : xs.length ≤ 140737488351232) : FnS Try.prog w0 H 82 #[.slice a xs.length c] (ReadR xs H) := by
  refine fns_enter Try.func82 rfl rfl rfl ?_
  refine s_kn (Kn.by hx) fun l1 => ?_
  simp only [maxLen] at l1
  have hnil : ∀ {H : List Ck}, Ent H (oK kd0 :: H) := fun {H} => Ent.nilS.trans ((Ent.head Ent.nilS).trans ((Ent.head (Ent.head fam_nil)).trans (Ent.oK (k := kd0) (by exact Rm.tl Rm.hd) (by exact Rm.hd) (by exact Rm.hd) Ent.refl)))
  refine sx ?_
  refine s_alloc fun b2 => ?_
  refine sx ?_
  refine s_alloc fun b4 => ?_
  refine sx ?_
  refine s_if rfl (fun t1 => ?_) (fun t1 => ?_)
  · refine sx ?_
    have e : readK xs = none := by rw [readK, if_pos (.inl (by omega))]
    exact s_retcv rfl rfl rfl (by exact at_) rfl (readR_none (k := kd0) e (fun n h => by cases h) (Nat.zero_le _)) ((Ent.tl (Ent.tl Ent.refl)).trans hnil)
  have g0 := by8_lt xs 0
  have g1 := by8_lt xs 1
  have hwd : w16 xs = by8 xs 0 * 256 + by8 xs 1 := rfl
  simp only [by8] at g0 g1 hwd
  refine sx ?_; refine s_dr (.one true 0 (.one true 1 (.one true 2 (.one true 3 (.one true 4 (.one true 5 (.one true 6 (.one true 7 (.one true 8 (.one true 9 (.one true 10 .nil))))))))))) mixed (by kernel_rfl) ?_; refine sx ?_
  refine s_rwC (t := 5) (v' := .int .i64 ((w16 xs : Nat) : Int)) rfl (ci (by omega)) ?_
  have hw := w16_lt xs
  generalize hm : w16 xs = m at hw hwd
  refine s_if rfl (fun t2 => ?_) (fun t2 => ?_)
  · refine sx ?_
    have e : readK xs = none := by rw [readK, if_pos (.inr (by rw [hm]; omega))]
    exact s_retcv rfl rfl rfl (by exact at_) rfl (readR_none (k := kd0) e (fun n h => by cases h) (Nat.zero_le _)) ((Ent.tl (Ent.tl Ent.refl)).trans hnil)
  refine sx ?_
  refine s_loop (fun i : RdJ => [(0, .slice a xs.length c), (2, .pointer (some ⟨b2, 0, none⟩)), (3, .bool false), (4, .pointer (some ⟨b4, 0, none⟩)), (5, .int .i64 m), (6, .int .i64 ((2 + 4 * i.i : Nat) : Int)), (7, .int .i64 i.i)])
    (fun i => .hb b4 36 [.slice i.pa (pgs i.i (xs.drop 2)).length i.pc, .slice none 0 0] :: ol 3 i.pa i.pc (pgs i.i (xs.drop 2)) :: .hb b2 36 [.slice none 0 0, .slice none 0 0] :: H)
    (fun i => i.i ≤ m) (fun i => m - i.i) ⟨0, none, 0⟩ (Nat.zero_le _) ?_
  rintro ⟨i, pa, pc⟩ hi
  simp only at hi ⊢
  have hpl := pgs_len i (xs.drop 2)
  refine sx ?_
  refine s_if rfl (fun t3 => ?_) (fun t3 => ?_)
  · have g0 := by8_lt (xs.drop (2 + 4 * i)) 0
    have g1 := by8_lt (xs.drop (2 + 4 * i)) 1
    have g2 := by8_lt (xs.drop (2 + 4 * i)) 2
    have g3 := by8_lt (xs.drop (2 + 4 * i)) 3
    have hW : w32 (xs.drop (2 + 4 * i)) = ((by8 (xs.drop (2 + 4 * i)) 0 * 256 + by8 (xs.drop (2 + 4 * i)) 1) * 256 + by8 (xs.drop (2 + 4 * i)) 2) * 256 + by8 (xs.drop (2 + 4 * i)) 3 := rfl
    simp only [by8_drop, Nat.add_zero] at g0 g1 g2 g3 hW
    have g2 : (xs.getD (2 + 4 * i + 1 + 1) 0).toNat < 256 := g2
    have g3 : (xs.getD (2 + 4 * i + 2 + 1) 0).toNat < 256 := g3
    have hW : w32 (xs.drop (2 + 4 * i)) = (((xs.getD (2 + 4 * i) 0).toNat * 256 + (xs.getD (2 + 4 * i + 1) 0).toNat) * 256 + (xs.getD (2 + 4 * i + 1 + 1) 0).toNat) * 256 + (xs.getD (2 + 4 * i + 2 + 1) 0).toNat := hW
    refine sx ?_; refine s_drH (.hb b2 36 [.slice none 0 0, .slice none 0 0] :: H) (.one true 0 (.one true 2 (.one true 3 (.one true 4 (.one true 5 (.one true 6 (.one true 7 (.one true 8 (.one true 9 (.one true 10 (.one true 11 (.one true 12 (.one true 13 (.one true 14 (.one true 15 (.one true 16 (.one true 17 (.one true 18 (.one true 19 (.one true 20 (.one true 21 (.one true 22 (.one true 23 (.one true 24 (.one true 25 (.one true 26 (.one true 27 (.one true 28 (.one true 29 (.one true 30 (.alt (.one false 1 (.one false 31 (.one false 32 (.one true 33 (.one false 34 .nil))))) (.one false 31 (.one false 1 (.one false 32 (.one true 33 (.one false 34 .nil)))))))))))))))))))))))))))))))))))) mixed (by kernel_rfl) ?_; refine sx ?_
    refine s_rw (t := 67) rfl (ci (by omega : _ = ((w32 (xs.drop (2 + 4 * i)) : Nat) : Int))) ?_
    have e : pgs i (xs.drop 2) ++ [((w32 (xs.drop (2 + 4 * i)) : Nat) : Int)] = pgs (i + 1) (xs.drop 2) := by
      rw [pgs_snoc, List.drop_drop]
    refine s_alt ?_ ?_
    · refine s_yA rfl rfl (by exact yy) ?_ (chk_held (by exact ent))
      refine s_bsl [((w32 (xs.drop (2 + 4 * i)) : Nat) : Int)] rfl rfl fun b9 => ?_
      refine s_app ?_
      intro a2 c2
      rw [e]
      refine sx ?_
      exact s_again ⟨i + 1, a2, c2⟩ (by simp only; omega) (by simp only; omega)
    · refine s_bsl [((w32 (xs.drop (2 + 4 * i)) : Nat) : Int)] rfl rfl fun b9 => ?_
      refine s_yA rfl rfl (by exact yy) ?_ (chk_held (by exact ent))
      refine s_app ?_
      intro a2 c2
      rw [e]
      refine sx ?_
      exact s_again ⟨i + 1, a2, c2⟩ (by simp only; omega) (by simp only; omega)
  obtain rfl : i = m := by omega
  have hps : ∀ n ∈ pgs i (xs.drop 2), 0 ≤ n ∧ n < 4294967296 := pgs_lt _ _
  have hrK : readK xs = (kys (i - 1) (xs.drop (2 + 4 * i))).bind fun r => if r.2.length = 0 then some (pgs i (xs.drop 2), r.1) else none := by
    rw [readK, hm, if_neg (by omega)]
  generalize hPS : pgs i (xs.drop 2) = PS at hpl hps hrK
  refine sx ?_
  refine s_loop (fun q : RkJ => [(0, .slice a xs.length c), (2, .pointer (some ⟨b2, 0, none⟩)), (3, .bool false), (4, .pointer (some ⟨b4, 0, none⟩)), (5, .int .i64 i), (6, .int .i64 q.p), (8, .int .i64 ((q.j + 1 : Nat) : Int))])
    (fun q => .hb b4 36 [.slice pa PS.length pc, .slice q.ka q.ks.length q.kc] :: ol 3 pa pc PS :: ol 25 q.ka q.kc q.ks :: fam 5 q.ks :: .hb b2 36 [.slice none 0 0, .slice none 0 0] :: H)
    (fun q => q.j ≤ i - 1 ∧ q.p ≤ xs.length ∧ (kys (i - 1) (xs.drop (2 + 4 * i)) = (kys (i - 1 - q.j) (xs.drop q.p)).map fun r => (q.ks.map SB.xs ++ r.1, r.2)) ∧ q.ks.length = q.j) (fun q => i - 1 - q.j) ⟨0, 2 + 4 * i, none, 0, []⟩ ⟨Nat.zero_le _, by simp only; omega, by simp only [List.map_nil, List.nil_append, Nat.sub_zero]; cases kys (i - 1) (xs.drop (2 + 4 * i)) <;> rfl, rfl⟩ ?_ (he := by
      refine Ent.cons (by exact rm) ?_
      refine Ent.cons (by exact rm) ?_
      refine Ent.nilS.trans (Ent.head ?_)
      refine fam_nil.trans (Ent.head ?_)
      exact ent)
  rintro ⟨j, p, ka, kc, ks⟩ ⟨hj, hp, hk, hkl⟩
  simp only at hj hp hk hkl ⊢
  have hend : readK xs = none → ReadR xs H (.tuple #[.agg (Kd.cells ⟨pa, pc, PS, ka, kc, ks⟩).toArray, .bool false]) (oK ⟨pa, pc, PS, ka, kc, ks⟩ :: H) := fun e => readR_none (k := ⟨pa, pc, PS, ka, kc, ks⟩) e hps (by show PS.length ≤ _; omega)
  have hsh : Ent (.hb b4 36 [.slice pa PS.length pc, .slice ka ks.length kc] :: ol 3 pa pc PS :: ol 25 ka kc ks :: fam 5 ks :: .hb b2 36 [.slice pa PS.length pc, .slice ka ks.length kc] :: H) (oK ⟨pa, pc, PS, ka, kc, ks⟩ :: H) :=
    Ent.oK (k := ⟨pa, pc, PS, ka, kc, ks⟩) (by exact rm) (by exact rm) (by exact rm) (by exact ent)
  have hdl : (xs.drop p).length = xs.length - p := List.length_drop
  refine sx ?_
  refine s_if rfl (fun t4 => ?_) (fun t4 => ?_)
  · obtain ⟨n, hn⟩ : ∃ n, i - 1 - j = n + 1 := ⟨i - 2 - j, by omega⟩
    rw [hn] at hk
    refine sx ?_
    refine s_if rfl (fun t5 => ?_) (fun t5 => ?_)
    · have e : readK xs = none := by
        rw [hrK, hk, kys, if_pos (.inl (by omega))]; rfl
      refine sx ?_
      exact s_retcv rfl rfl rfl (by exact at_) rfl (hend e) hsh
    have g0 := by8_lt (xs.drop p) 0
    have g1 := by8_lt (xs.drop p) 1
    have hwd : w16 (xs.drop p) = by8 (xs.drop p) 0 * 256 + by8 (xs.drop p) 1 := rfl
    simp only [by8_drop, Nat.add_zero] at g0 g1 hwd
    have hw2 := w16_lt (xs.drop p)
    have hkk := fun h1 h2 => kys_keep (n := n) (xs := xs.drop p) h1 h2 hk
    have hno : (xs.drop p).length - 2 < w16 (xs.drop p) → readK xs = none := fun h => by
      rw [hrK, hk, kys, if_pos (.inr h)]; rfl
    generalize w16 (xs.drop p) = g at hw2 hkk hno hwd
    refine sx ?_; refine s_dr (.one true 0 (.one true 1 (.one true 2 (.one true 3 (.one true 4 (.one true 5 (.one true 6 (.one true 7 (.one true 8 (.one true 9 (.one true 10 (.one true 11 (.one true 12 (.one true 13 .nil)))))))))))))) mixed (by kernel_rfl) ?_; refine sx ?_
    refine s_rwC (t := 9) (v' := .int .i64 ((g : Nat) : Int)) rfl (ci (by omega)) ?_
    refine s_rwC (t := 6) (v' := .int .i64 ((p + 2 : Nat) : Int)) rfl (ci (by omega)) ?_
    refine sx ?_
    refine s_if rfl (fun t6 => ?_) (fun t6 => ?_)
    · refine sx ?_
      exact s_retcv rfl rfl rfl (by exact at_) rfl (hend (hno (by omega))) hsh
    have hkk := hkk (by omega) (by omega)
    simp only [List.drop_drop] at hkk
    have hrd := hx.sl (j := p + 2) (k := p + 2 + g) (by omega) (by omega)
    have hkl2 : ((xs.take (p + 2 + g)).drop (p + 2)).length = g := by rw [List.length_drop, List.length_take]; omega
    have hde : (xs.drop (p + 2)).take g = (xs.take (p + 2 + g)).drop (p + 2) := by rw [List.drop_take]; congr 1; omega
    rw [hde, show p + (2 + g) = p + 2 + g by omega] at hkk
    generalize (xs.take (p + 2 + g)).drop (p + 2) = key at hrd hkl2 hkk
    refine sx ?_; refine s_drH (ol 3 pa pc PS :: .hb b2 36 [.slice none 0 0, .slice none 0 0] :: H) (.one true 0 (.one true 3 (.one true 4 (.one true 5 (.one true 6 (.one true 7 (.one true 8 (.alt (.one false 1 (.one false 2 (.one false 9 (.one false 10 (.one false 11 (.one true 12 (.one false 13 .nil))))))) (.one false 2 (.alt (.one false 1 (.one false 9 (.one false 10 (.one false 11 (.one true 12 (.one false 13 .nil)))))) (.one false 9 (.alt (.one false 1 (.one false 10 (.one false 11 (.one true 12 (.one false 13 .nil))))) (.one false 10 (.one false 1 (.one false 11 (.one true 12 (.one false 13 .nil))))))))))))))))) mixed (by kernel_rfl) ?_; refine sx ?_
    refine s_rw (t := 113) rfl (ci (by omega : _ = ((p + 2 + g : Nat) : Int))) ?_
    refine sx ?_
    refine s_rw (t := 114) (v' := .slice (sl a c (p + 2) 1) key.length (c - (p + 2))) rfl (by rw [hkl2]; congr 1; omega) ?_
    refine s_alt ?_ ?_
    · refine s_yA rfl rfl (by exact yy) ?_ (chk_held (by exact ent))
      refine s_bsl ([] : List UInt8) rfl rfl fun b8 => ?_
      refine s_app (ys := key) ?_
      intro a1 c1
      refine s_bsl [(⟨a1, c1, [] ++ key⟩ : SB)] rfl rfl fun b9 => ?_
      refine s_app ?_
      intro ka' kc'
      refine sx ?_
      refine s_again ⟨j + 1, p + 2 + g, ka', kc', ks ++ [⟨a1, c1, [] ++ key⟩]⟩ ⟨by simp only; omega, by simp only; omega, ?_, by simp only [List.length_append, List.length_cons, List.length_nil]; omega⟩ (by simp only; omega) (he := ?_)
      · simp only [List.map_append, List.map_cons, List.map_nil, List.nil_append]
        rw [show i - 1 - (j + 1) = n by omega]
        exact hkk
      · refine Ent.cons (by exact rm) ?_
        refine Ent.cons (by exact rm) ?_
        refine Ent.cons (by exact rm) ?_
        exact Ent.famS (by exact rm) (by exact rm) (by exact ent)
    · refine s_bsl ([] : List UInt8) rfl rfl fun b8 => ?_
      refine s_alt ?_ ?_
      · refine s_yA rfl rfl (by exact yy) ?_ (chk_held (by exact ent))
        refine s_app (ys := key) ?_
        intro a1 c1
        refine s_bsl [(⟨a1, c1, [] ++ key⟩ : SB)] rfl rfl fun b9 => ?_
        refine s_app ?_
        intro ka' kc'
        refine sx ?_
        refine s_again ⟨j + 1, p + 2 + g, ka', kc', ks ++ [⟨a1, c1, [] ++ key⟩]⟩ ⟨by simp only; omega, by simp only; omega, ?_, by simp only [List.length_append, List.length_cons, List.length_nil]; omega⟩ (by simp only; omega) (he := ?_)
        · simp only [List.map_append, List.map_cons, List.map_nil, List.nil_append]
          rw [show i - 1 - (j + 1) = n by omega]
          exact hkk
        · refine Ent.cons (by exact rm) ?_
          refine Ent.cons (by exact rm) ?_
          refine Ent.cons (by exact rm) ?_
          exact Ent.famS (by exact rm) (by exact rm) (by exact ent)
      · refine s_app (ys := key) ?_
        intro a1 c1
        refine s_alt ?_ ?_
        · refine s_yA rfl rfl (by exact yy) ?_ (chk_held (by exact ent))
          refine s_bsl [(⟨a1, c1, [] ++ key⟩ : SB)] rfl rfl fun b9 => ?_
          refine s_app ?_
          intro ka' kc'
          refine sx ?_
          refine s_again ⟨j + 1, p + 2 + g, ka', kc', ks ++ [⟨a1, c1, [] ++ key⟩]⟩ ⟨by simp only; omega, by simp only; omega, ?_, by simp only [List.length_append, List.length_cons, List.length_nil]; omega⟩ (by simp only; omega) (he := ?_)
          · simp only [List.map_append, List.map_cons, List.map_nil, List.nil_append]
            rw [show i - 1 - (j + 1) = n by omega]
            exact hkk
          · refine Ent.cons (by exact rm) ?_
            refine Ent.cons (by exact rm) ?_
            refine Ent.cons (by exact rm) ?_
            exact Ent.famS (by exact rm) (by exact rm) (by exact ent)
        · refine s_bsl [(⟨a1, c1, [] ++ key⟩ : SB)] rfl rfl fun b9 => ?_
          refine s_yA rfl rfl (by exact yy) ?_ (chk_held (by exact ent))
          refine s_app ?_
          intro ka' kc'
          refine sx ?_
          refine s_again ⟨j + 1, p + 2 + g, ka', kc', ks ++ [⟨a1, c1, [] ++ key⟩]⟩ ⟨by simp only; omega, by simp only; omega, ?_, by simp only [List.length_append, List.length_cons, List.length_nil]; omega⟩ (by simp only; omega) (he := ?_)
          · simp only [List.map_append, List.map_cons, List.map_nil, List.nil_append]
            rw [show i - 1 - (j + 1) = n by omega]
            exact hkk
          · refine Ent.cons (by exact rm) ?_
            refine Ent.cons (by exact rm) ?_
            refine Ent.cons (by exact rm) ?_
            exact Ent.famS (by exact rm) (by exact rm) (by exact ent)
  · have hj' : i - 1 - j = 0 := by omega
    rw [hj', kys] at hk
    refine sx ?_
    have hfin : readK xs = if (xs.drop p).length = 0 then some (PS, ks.map SB.xs) else none := by
      rw [hrK, hk]
      simp only [Option.map_some, Option.bind_some, List.append_nil]
    refine s_retcv rfl rfl rfl (by exact at_) rfl ⟨⟨pa, pc, PS, ka, kc, ks⟩, _, rfl, ?_, fun d h => ?_, hps, by show PS.length ≤ _; omega, rfl⟩ hsh
    · rw [hfin]
      by_cases h0 : (xs.drop p).length = 0
      · rw [if_pos h0, decide_eq_true (by omega)]; rfl
      · rw [if_neg h0, decide_eq_false (by omega)]; rfl
    · rw [hfin] at h
      split at h
      · cases h; rfl
      · cases h
end Go.Sx
