/- Part of a proof: the law's examples of branches. -/
import Derived.Test.YtolnmecncilpeaaCB9
namespace Go.Sx
open Go Go.Proofs
set_option maxRecDepth 10000
variable {w0 : World} {H : List Ck}
set_option maxHeartbeats 1000000 in
theorem kids_s {xs : Bs} {ps : List Int} {a : Option Addr} {c : Nat} (_hp : RSl w0 H a c ps) (hx : xs.length ≤ 1000) : FnS Try.prog w0 H 37 #[str xs, .slice a ps.length c]
    (fun v H' => ∃ ka kc ks, v = .agg (Kd.cells ⟨a, c, ps, ka, kc, ks⟩).toArray ∧ (ks : List SB).map SB.xs = xs.map (fun x => [x]) ∧ H' = ol 23 ka kc ks :: fam 5 ks :: H) := by
  refine fns_enter Try.func37 rfl rfl rfl ?_
  refine sx ?_
  refine s_alloc fun b4 => ?_
  refine sx ?_
  refine s_rw (t := 8) (v' := .agg [.slice a ps.length c, .slice none 0 0].toArray) rfl rfl ?_
  refine s_alloc fun b5 => ?_
  refine sx ?_
  refine s_loop (fun m : RpI => [(0, str xs), (4, .pointer (some ⟨b4, 0, none⟩)), (5, .pointer (some ⟨b5, 0, none⟩)), (6, .int .i64 m.n)])
    (fun m => .hb b5 31 [.slice a ps.length c, .slice m.ka m.ks.length m.kc] :: ol 23 m.ka m.kc m.ks :: fam 5 m.ks :: .hb b4 31 [.slice none 0 0, .slice none 0 0] :: H)
    (fun m => m.n ≤ xs.length ∧ m.ks.map SB.xs = (xs.take m.n).map (fun x => [x])) (fun m => xs.length - m.n) ⟨0, none, 0, []⟩ ⟨Nat.zero_le _, rfl⟩ ?_ (he := by
      refine Ent.cons (by exact rm) ?_
      refine Ent.nilS.trans (Ent.head ?_)
      refine fam_nil.trans (Ent.head ?_)
      exact ent)
  rintro ⟨i, ka, kc, ks⟩ ⟨hi, hk⟩
  simp only at hi hk ⊢
  have hkl : ks.length = i := by have := congrArg List.length hk; simp at this; omega
  refine sx ?_
  refine s_yS rfl rfl rfl (y_lenstr rfl) ?_
  refine sx ?_
  refine s_if rfl (fun t1 => ?_) (fun t1 => ?_)
  · obtain ⟨x, hx⟩ := get_lt xs i (by omega)
    have hxe : x = xs.getD i 0 := by simp [hx]
    refine sx ?_; refine s_drH (.hb b4 31 [.slice none 0 0, .slice none 0 0] :: H) (.one true 0 (.one true 2 (.one true 3 (.one true 4 (.alt (.one false 1 (.one false 5 (.one false 6 (.one false 7 (.one true 8 (.one false 9 .nil)))))) (.one false 5 (.alt (.one false 1 (.one false 6 (.one false 7 (.one true 8 (.one false 9 .nil))))) (.one false 6 (.one false 1 (.one false 7 (.one true 8 (.one false 9 .nil)))))))))))) mixed (by kernel_rfl) ?_; refine sx ?_
    refine s_yH rfl rfl rfl (y_sidx rfl rfl (by omega)) ?_
    refine s_alt ?_ ?_
    · refine s_yA rfl rfl (by exact yy) ?_ (chk_held (by exact ent))
      refine s_bsl ([xs.getD i 0] : Bs) rfl rfl fun b9 => ?_
      refine s_bsl [(⟨some ⟨b9, 0, none⟩, 1, [xs.getD i 0]⟩ : SB)] rfl rfl fun b10 => ?_
      refine s_app ?_ (hby := by simp only [List.length_cons, List.length_nil]; omega)
      intro ka' kc'
      refine sx ?_
      refine s_again ⟨i + 1, ka', kc', ks ++ [⟨some ⟨b9, 0, none⟩, 1, [xs.getD i 0]⟩]⟩ ⟨by simp only; omega, ?_⟩ (by simp only; omega) (he := ?_)
      · simp only [List.map_append, List.map_cons, List.map_nil]
        rw [hk, snocT hx, List.map_append, hxe]
        rfl
      · refine Ent.cons (by exact rm) ?_
        refine Ent.cons (by exact rm) ?_
        exact Ent.famS (by exact rm) (by exact rm) (by exact ent)
    · refine s_bsl ([xs.getD i 0] : Bs) rfl rfl fun b9 => ?_
      refine s_alt ?_ ?_
      · refine s_yA rfl rfl (by exact yy) ?_ (chk_held (by exact ent))
        refine s_bsl [(⟨some ⟨b9, 0, none⟩, 1, [xs.getD i 0]⟩ : SB)] rfl rfl fun b10 => ?_
        refine s_app ?_ (hby := by simp only [List.length_cons, List.length_nil]; omega)
        intro ka' kc'
        refine sx ?_
        refine s_again ⟨i + 1, ka', kc', ks ++ [⟨some ⟨b9, 0, none⟩, 1, [xs.getD i 0]⟩]⟩ ⟨by simp only; omega, ?_⟩ (by simp only; omega) (he := ?_)
        · simp only [List.map_append, List.map_cons, List.map_nil]
          rw [hk, snocT hx, List.map_append, hxe]
          rfl
        · refine Ent.cons (by exact rm) ?_
          refine Ent.cons (by exact rm) ?_
          exact Ent.famS (by exact rm) (by exact rm) (by exact ent)
      · refine s_bsl [(⟨some ⟨b9, 0, none⟩, 1, [xs.getD i 0]⟩ : SB)] rfl rfl fun b10 => ?_
        refine s_yA rfl rfl (by exact yy) ?_ (chk_held (by exact ent))
        refine s_app ?_ (hby := by simp only [List.length_cons, List.length_nil]; omega)
        intro ka' kc'
        refine sx ?_
        refine s_again ⟨i + 1, ka', kc', ks ++ [⟨some ⟨b9, 0, none⟩, 1, [xs.getD i 0]⟩]⟩ ⟨by simp only; omega, ?_⟩ (by simp only; omega) (he := ?_)
        · simp only [List.map_append, List.map_cons, List.map_nil]
          rw [hk, snocT hx, List.map_append, hxe]
          rfl
        · refine Ent.cons (by exact rm) ?_
          refine Ent.cons (by exact rm) ?_
          exact Ent.famS (by exact rm) (by exact rm) (by exact ent)
  · obtain rfl : i = xs.length := by omega
    rw [List.take_length] at hk
    refine sx ?_
    exact s_retc rfl rfl (by exact at_) rfl ⟨ka, kc, ks, rfl, hk, rfl⟩

theorem rsame_t {k q : Kd} (hk : RKd w0 H k) (hq : RKd w0 H q) (h : k.d = q.d) : FnV Try.prog w0 H 28 #[.agg k.cells.toArray, .agg q.cells.toArray] (.bool true) := by
  have := rsame_s hk hq
  rwa [decide_eq_true h] at this
def exB : Bs := [0, 3, 0, 0, 0, 5, 0, 0, 0, 9, 0, 0, 0, 4, 0, 1, 99, 0, 1, 102]
def exD : List Int × List Bs := ([5, 9, 4], [[99], [102]])
theorem ex_chk : chkK 512 exD = 0 := by decide +kernel
theorem ex_enc : encR 512 exD = exB := by decide +kernel
theorem ex_decE : decE 512 exB = 0 := by decide +kernel
theorem ex_decD : decD 512 exB = exD := by decide +kernel
theorem s_rwQ {n : Nat} {ds : List Deferred} {Q : Exit → Act → World → Prop} {e : Exit} {l : List (Nat × Value)} {t : Nat} {v v' : Value} (h : look l t = some v) (he : v = v') (k : SQ n ds Q e ((t, v') :: l) w0 H) : SQ n ds Q e l w0 H := by
  subst he
  refine .mk fun w hs => .mk fun a ha => (k.out w hs).out a ⟨ha.size, ha.defers, fun t' u ht => ?_⟩
  simp only [look] at ht
  by_cases e : t = t'
  · subst e; simp at ht; subst ht; exact ha.has _ _ h
  · have hb : Nat.beq t t' = false := by rw [← Bool.not_eq_true, Nat.beq_eq]; exact e
    rw [hb] at ht
    exact ha.has _ u ht
set_option maxHeartbeats 4000000 in
theorem alive_s : FnV Try.prog w0 H 12 #[] (.bool true) := by
  refine fns_enter Try.func12 rfl rfl rfl ?_
  refine sx ?_
  refine s_bsl ([5, 9, 4] : List Int) rfl rfl fun b10 => ?_
  refine s_call rfl (kids_s (xs := [99, 102]) (ps := [5, 9, 4]) (a := some ⟨b10, 0, none⟩) (c := 3) (by exact rsl) (by decide)) ?_
  rintro _ _ ⟨ka1, kc1, ks1, rfl, hk1, rfl⟩
  refine ⟨chk_seq, ?_⟩
  obtain ⟨k1, hk1e⟩ : ∃ k : Kd, k = ⟨some ⟨b10, 0, none⟩, 3, [5, 9, 4], ka1, kc1, ks1⟩ := ⟨_, rfl⟩
  rw [← hk1e]
  have hd1 : k1.d = exD := by rw [hk1e]; exact Prod.ext rfl hk1
  have hps1 : k1.ps = [5, 9, 4] := by rw [hk1e]
  have hks1 : k1.keys = [[99], [102]] := by rw [hk1e]; exact hk1
  refine s_entL (oK k1 :: H) (by rw [hk1e]; exact Ent.oK (k := ⟨some ⟨b10, 0, none⟩, 3, [5, 9, 4], ka1, kc1, ks1⟩) (by exact rm) (by exact rm) (by exact rm) (by exact ent)) ?_
  refine s_alloc fun b1 => ?_
  refine sx ?_
  refine s_call rfl (bencode_s (k := k1) (by exact rkd) (by rw [hps1]; decide)) ?_
  rintro _ _ ⟨a2, c2, rfl, rfl⟩
  rw [hd1, ex_chk, ex_enc]
  refine ⟨chk_seq, ?_⟩
  refine sx ?_
  refine s_call rfl (bdecode_s (size := 512) (xs := exB) (by exact rby)) ?_
  rintro _ _ ⟨kx, rfl, hkx, rfl⟩
  rw [ex_decD] at hkx
  rw [ex_decE]
  refine ⟨chk_seq, ?_⟩
  refine sx ?_
  refine s_alloc fun b4 => ?_
  refine sx ?_
  have hdx : kx.d = exD := hkx
  refine s_cut (ι := Nat × Kd) (fun x => [(1, .pointer (some ⟨b1, 0, none⟩)), (2, .slice a2 exB.length c2), (3, .int .i64 0), (4, .pointer (some ⟨b4, 0, none⟩)), (5, .int .i64 0), (6, .pointer (some ⟨x.1, 0, none⟩)), (7, .int .i64 0)])
    (fun x => .hb x.1 31 x.2.cells :: oK x.2 :: .hb b4 31 kx.cells :: oK kx :: ob a2 c2 exB :: .hb b1 31 k1.cells :: oK k1 :: H) (fun x => x.2.d = ([5, 7, 8, 4], [[99], [100], [102]])) ?_ ?_
  · refine sx ?_; refine s_dr (.one true 0 (.alt (.one false 1 (.alt (.one false 2 (.alt (.one false 3 (.one true 4 (.one true 5 (.one true 6 (.one false 7 (.one false 8 (.one true 9 .nil))))))) (.one false 7 (.one false 3 (.one true 4 (.one true 5 (.one true 6 (.one false 8 (.one true 9 .nil))))))))) (.one false 7 (.one false 2 (.one false 3 (.one true 4 (.one true 5 (.one true 6 (.one false 8 (.one true 9 .nil)))))))))) (.one false 7 (.one false 1 (.one false 2 (.one false 3 (.one true 4 (.one true 5 (.one true 6 (.one false 8 (.one true 9 .nil))))))))))) mixed (by kernel_rfl) ?_; refine sx ?_
    refine s_alt ?_ ?_
    · refine s_bsl ([7, 8] : List Int) rfl rfl fun b24 => ?_
      refine s_alt ?_ ?_
      · refine s_call rfl (kids_s (xs := [100]) (ps := [7, 8]) (a := some ⟨b24, 0, none⟩) (c := 2) (by exact rsl) (by decide)) ?_
        rintro _ _ ⟨ka2, kc2, ks2, rfl, hk2, rfl⟩
        refine ⟨chk_held (by exact ent), ?_⟩
        have hd2 : (⟨some ⟨b24, 0, none⟩, 2, [7, 8], ka2, kc2, ks2⟩ : Kd).d = ([7, 8], [[100]]) := Prod.ext rfl hk2
        refine s_alt ?_ ?_
        · refine s_entL (oK ⟨some ⟨b24, 0, none⟩, 2, [7, 8], ka2, kc2, ks2⟩ :: .hb b4 31 kx.cells :: oK kx :: ob a2 c2 exB :: .hb b1 31 k1.cells :: oK k1 :: H) (Ent.oK (by exact rm) (by exact rm) (by exact rm) (by exact ent)) ?_
          refine s_call rfl (breplace_s (k := k1) (q := ⟨some ⟨b24, 0, none⟩, 2, [7, 8], ka2, kc2, ks2⟩) (i := 1) (j := 2) (by exact rkd) (by exact rkd) (by decide) (by decide) ⟨by rw [hps1]; decide, by rw [hks1]; decide⟩ ⟨(by decide : ([7, 8] : List Int).length ≤ 1099511627776), by rw [show Kd.keys _ = _ from hk2]; decide⟩) ?_
          rintro _ _ ⟨kr, rfl, hkr, rfl⟩
          refine ⟨chk_held (by exact ent), ?_⟩
          rw [hd1, hd2] at hkr ⊢
          have hkr : kr.d = ([5, 7, 8, 4], [[99], [100], [102]]) := hkr.trans (by decide)
          refine sx ?_
          refine s_alloc fun b6 => ?_
          refine sx ?_
          refine s_rwQ (t := 7) (v' := .int .i64 0) rfl (ci (by decide)) ?_
          exact s_mid (b6, kr) hkr
        · refine s_alloc fun b6 => ?_
          refine s_entL (oK ⟨some ⟨b24, 0, none⟩, 2, [7, 8], ka2, kc2, ks2⟩ :: .hb b6 31 [.slice none 0 0, .slice none 0 0] :: .hb b4 31 kx.cells :: oK kx :: ob a2 c2 exB :: .hb b1 31 k1.cells :: oK k1 :: H) (Ent.oK (by exact rm) (by exact rm) (by exact rm) (by exact ent)) ?_
          refine s_call rfl (breplace_s (k := k1) (q := ⟨some ⟨b24, 0, none⟩, 2, [7, 8], ka2, kc2, ks2⟩) (i := 1) (j := 2) (by exact rkd) (by exact rkd) (by decide) (by decide) ⟨by rw [hps1]; decide, by rw [hks1]; decide⟩ ⟨(by decide : ([7, 8] : List Int).length ≤ 1099511627776), by rw [show Kd.keys _ = _ from hk2]; decide⟩) ?_
          rintro _ _ ⟨kr, rfl, hkr, rfl⟩
          refine ⟨chk_held (by exact ent), ?_⟩
          rw [hd1, hd2] at hkr ⊢
          have hkr : kr.d = ([5, 7, 8, 4], [[99], [100], [102]]) := hkr.trans (by decide)
          refine sx ?_
          refine sx ?_
          refine s_rwQ (t := 7) (v' := .int .i64 0) rfl (ci (by decide)) ?_
          exact s_mid (b6, kr) hkr
      · refine s_alloc fun b6 => ?_
        refine s_call rfl (kids_s (xs := [100]) (ps := [7, 8]) (a := some ⟨b24, 0, none⟩) (c := 2) (by exact rsl) (by decide)) ?_
        rintro _ _ ⟨ka2, kc2, ks2, rfl, hk2, rfl⟩
        refine ⟨chk_held (by exact ent), ?_⟩
        have hd2 : (⟨some ⟨b24, 0, none⟩, 2, [7, 8], ka2, kc2, ks2⟩ : Kd).d = ([7, 8], [[100]]) := Prod.ext rfl hk2
        refine s_entL (oK ⟨some ⟨b24, 0, none⟩, 2, [7, 8], ka2, kc2, ks2⟩ :: .hb b6 31 [.slice none 0 0, .slice none 0 0] :: .hb b4 31 kx.cells :: oK kx :: ob a2 c2 exB :: .hb b1 31 k1.cells :: oK k1 :: H) (Ent.oK (by exact rm) (by exact rm) (by exact rm) (by exact ent)) ?_
        refine s_call rfl (breplace_s (k := k1) (q := ⟨some ⟨b24, 0, none⟩, 2, [7, 8], ka2, kc2, ks2⟩) (i := 1) (j := 2) (by exact rkd) (by exact rkd) (by decide) (by decide) ⟨by rw [hps1]; decide, by rw [hks1]; decide⟩ ⟨(by decide : ([7, 8] : List Int).length ≤ 1099511627776), by rw [show Kd.keys _ = _ from hk2]; decide⟩) ?_
        rintro _ _ ⟨kr, rfl, hkr, rfl⟩
        refine ⟨chk_held (by exact ent), ?_⟩
        rw [hd1, hd2] at hkr ⊢
        have hkr : kr.d = ([5, 7, 8, 4], [[99], [100], [102]]) := hkr.trans (by decide)
        refine sx ?_
        refine sx ?_
        refine s_rwQ (t := 7) (v' := .int .i64 0) rfl (ci (by decide)) ?_
        exact s_mid (b6, kr) hkr
    · refine s_alloc fun b6 => ?_
      refine s_bsl ([7, 8] : List Int) rfl rfl fun b24 => ?_
      refine s_call rfl (kids_s (xs := [100]) (ps := [7, 8]) (a := some ⟨b24, 0, none⟩) (c := 2) (by exact rsl) (by decide)) ?_
      rintro _ _ ⟨ka2, kc2, ks2, rfl, hk2, rfl⟩
      refine ⟨chk_held (by exact ent), ?_⟩
      have hd2 : (⟨some ⟨b24, 0, none⟩, 2, [7, 8], ka2, kc2, ks2⟩ : Kd).d = ([7, 8], [[100]]) := Prod.ext rfl hk2
      refine s_entL (oK ⟨some ⟨b24, 0, none⟩, 2, [7, 8], ka2, kc2, ks2⟩ :: .hb b6 31 [.slice none 0 0, .slice none 0 0] :: .hb b4 31 kx.cells :: oK kx :: ob a2 c2 exB :: .hb b1 31 k1.cells :: oK k1 :: H) (Ent.oK (by exact rm) (by exact rm) (by exact rm) (by exact ent)) ?_
      refine s_call rfl (breplace_s (k := k1) (q := ⟨some ⟨b24, 0, none⟩, 2, [7, 8], ka2, kc2, ks2⟩) (i := 1) (j := 2) (by exact rkd) (by exact rkd) (by decide) (by decide) ⟨by rw [hps1]; decide, by rw [hks1]; decide⟩ ⟨(by decide : ([7, 8] : List Int).length ≤ 1099511627776), by rw [show Kd.keys _ = _ from hk2]; decide⟩) ?_
      rintro _ _ ⟨kr, rfl, hkr, rfl⟩
      refine ⟨chk_held (by exact ent), ?_⟩
      rw [hd1, hd2] at hkr ⊢
      have hkr : kr.d = ([5, 7, 8, 4], [[99], [100], [102]]) := hkr.trans (by decide)
      refine sx ?_
      refine sx ?_
      refine s_rwQ (t := 7) (v' := .int .i64 0) rfl (ci (by decide)) ?_
      exact s_mid (b6, kr) hkr
  rintro ⟨b6, kr⟩ hkr
  simp only at hkr ⊢
  refine sx ?_
  refine s_rw (t := 31) (v' := .agg (Rg.cells ⟨none, 0, [], none, 0, [], true⟩).toArray) rfl rfl ?_
  have hkl1 : ∀ p ∈ k1.ks, p.xs.length ≤ 140737488355328 := fun p hp => by
    have : p.xs ∈ k1.keys := List.mem_map.2 ⟨p, hp, rfl⟩
    rw [hks1] at this
    simp only [List.mem_cons, List.not_mem_nil, or_false] at this
    rcases this with h | h <;> rw [h] <;> decide
  refine s_call rfl (bspan_s (k := k1) (r := ⟨none, 0, [], none, 0, [], true⟩) (i := 3) (by exact rkd) ⟨RBy.nil, RBy.nil⟩ (by decide) hkl1 (by decide)) ?_
  rintro _ _ ⟨rs, rfl, hrs, rfl⟩
  rw [hd1, if_neg (by decide)]
  refine ⟨chk_seq, ?_⟩
  refine sx ?_
  refine s_alloc fun b8 => ?_
  refine sx ?_
  refine sx ?_; refine s_dr (.one true 0 (.one true 1 (.one true 2 (.one true 3 (.one true 4 (.one true 5 (.one true 6 (.one true 7 (.one true 8 (.one true 9 (.one true 10 (.one true 11 (.one true 12 (.one true 13 (.one true 14 (.one true 15 (.one true 16 (.one false 17 (.one true 18 (.one true 19 (.one true 20 (.one false 21 (.one false 22 (.one false 23 (.one true 24 (.one true 25 (.one true 26 (.one false 27 (.one false 28 (.one false 29 (.one true 30 (.one true 31 (.one true 32 (.one true 33 (.one true 34 (.one true 35 (.one true 36 (.one true 37 .nil)))))))))))))))))))))))))))))))))))))) mixed (by kernel_rfl) ?_; refine sx ?_
  refine s_callV rfl (rsame_t (k := kx) (q := k1) (by exact rkd) (by exact rkd) (hkx.trans hd1.symm)) ?_
  refine sx ?_
  refine s_bsl ([5, 7, 8, 4] : List Int) rfl rfl fun b56 => ?_
  refine s_call rfl (kids_s (xs := [99, 100, 102]) (ps := [5, 7, 8, 4]) (a := some ⟨b56, 0, none⟩) (c := 4) (by exact rsl) (by decide)) ?_
  rintro _ _ ⟨ka3, kc3, ks3, rfl, hk3, rfl⟩
  refine ⟨chk_held (by exact ent), ?_⟩
  have hd3 : (⟨some ⟨b56, 0, none⟩, 4, [5, 7, 8, 4], ka3, kc3, ks3⟩ : Kd).d = ([5, 7, 8, 4], [[99], [100], [102]]) := Prod.ext rfl hk3
  refine s_entL (oK ⟨some ⟨b56, 0, none⟩, 4, [5, 7, 8, 4], ka3, kc3, ks3⟩ :: .hb b8 38 rs.cells :: oR rs :: .hb b6 31 kr.cells :: oK kr :: .hb b4 31 kx.cells :: oK kx :: ob a2 c2 exB :: .hb b1 31 k1.cells :: oK k1 :: H) (Ent.oK (by exact rm) (by exact rm) (by exact rm) (by exact ent)) ?_
  refine s_callV rfl (rsame_t (k := kr) (q := ⟨some ⟨b56, 0, none⟩, 4, [5, 7, 8, 4], ka3, kc3, ks3⟩) (by exact rkd) (by exact rkd) (hkr.trans hd3.symm)) ?_
  refine sx ?_
  refine s_bsl ([99] : Bs) rfl rfl fun b62 => ?_
  refine s_convb rfl (by exact at_) ?_
  refine sx ?_
  refine s_callV rfl (bchild_s (k := k1) (key := [99]) (a := some ⟨b62, 0, none⟩) (c := 1) (by exact rkd) (RBy.ro (xs := [99]) rfl (by decide))) ?_
  rw [hks1]
  refine sx ?_
  exact s_ret1 rfl rfl ⟨rfl, rfl⟩
theorem names_s : FnV Try.prog w0 H 3 #[] (.bool true) := by
  refine fns_enter Try.func3 rfl rfl rfl ?_
  refine sx ?_
  refine s_callV rfl alive_s ?_
  refine sx ?_
  exact s_ret1 rfl rfl ⟨rfl, rfl⟩
end Go.Sx
