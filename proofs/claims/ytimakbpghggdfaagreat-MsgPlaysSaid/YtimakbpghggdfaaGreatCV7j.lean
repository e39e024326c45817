/- Part of a proof: several parts of a walk, one behind the other. -/
import Derived.Test.YtimakbpghggdfaaGreatCV5j
namespace Go.Sx
open Go Go.Proofs
set_option maxRecDepth 10000
variable {w0 : World} {H : List Ck}
abbrev RtkR (S n : Nat) (s : SrcB) (xs : Bs) (a : Option Addr) (c : Nat) (H : List Ck) : Value → List Ck → Prop := fun v H' => ∃ ra p, v = .slice ra (takeS n s).1.length (takeS n s).1.length ∧ p ≤ xs.length ∧ (takeS n s).2.1 = xs.drop p ∧ H' = ob ra (takeS n s).1.length (takeS n s).1 :: .hb S 181 [.slice a xs.length c, .int .i64 (p : Int), .bool (takeS n s).2.2] :: H
set_option maxHeartbeats 1000000 in
theorem rtake_s {S n c at' : Nat} {a : Option Addr} {xs : Bs} {s : SrcB} (hx : RBy w0 H a c xs) (hat : at' ≤ xs.length) (hs : s.1 = xs.drop at') (hn : n ≤ 4294967296) (hl : xs.length ≤ 140737488355328) :
    FnS Tryz.prog w0 (.hb S 181 [.slice a xs.length c, .int .i64 (at' : Int), .bool s.2] :: H) 161 #[.pointer (some ⟨S, 0, none⟩), .int .i64 (n : Int)] (RtkR S n s xs a c H) := by
  obtain ⟨ys, bad⟩ := s
  simp only at hs ⊢
  subst hs
  refine fns_enter Tryz.func161 rfl rfl rfl ?_
  refine s_kn (Kn.by hx).tl fun l1 => ?_
  simp only [maxLen] at l1
  have hdl : (xs.drop at').length = xs.length - at' := List.length_drop
  have hnone : takeS n (xs.drop at', bad) = ([], (xs.drop at', true)) → ∀ H1, Ent H1 (ob none 0 [] :: .hb S 181 [.slice a xs.length c, .int .i64 (at' : Int), .bool true] :: H) → RtkR S n (xs.drop at', bad) xs a c H (.slice none 0 0) (ob none 0 [] :: .hb S 181 [.slice a xs.length c, .int .i64 (at' : Int), .bool true] :: H) := fun e _ _ => ⟨none, at', by rw [e]; rfl, hat, by rw [e], by rw [e]; rfl⟩
  refine sx ?_; refine s_dr (.one true 0 (.one true 1 (.one true 2 (.one true 3 (.one true 4 (.one true 5 (.one true 6 (.one true 7 (.one true 8 (.one true 9 (.one true 10 (.one true 11 (.one true 12 (.one true 13 (.one true 14 (.one true 15 (.one true 16 (.one true 17 .nil)))))))))))))))))) mixed (by kernel_rfl) ?_; refine sx ?_
  cases bad
  · refine sx ?_
    refine s_if rfl (fun t1 => ?_) (fun t1 => ?_)
    · have e := takeS_none (n := n) (s := (xs.drop at', false)) (.inr (by simp only; omega))
      refine sx ?_
      exact s_ret1 (H' := ob none 0 [] :: .hb S 181 [.slice a xs.length c, .int .i64 (at' : Int), .bool true] :: H) rfl rfl (hnone e _ Ent.refl) Ent.nilS
    · have e := takeS_some (n := n) (s := (xs.drop at', false)) rfl (by simp only; omega)
      have hxl : ((xs.drop at').take n).length = n := by rw [List.length_take, hdl]; omega
      have hed : (xs.take (at' + n)).drop at' = (xs.drop at').take n := by rw [List.drop_take]; congr 1; omega
      have hr := hx.sl (j := at') (k := at' + n) (by omega) (by omega)
      rw [hed] at hr
      refine sx ?_
      refine s_ent (.hb S 181 [.slice a xs.length c, .int .i64 ((at' + n : Nat) : Int), .bool false] :: H) Ent.refl ?_
      refine sx ?_; refine s_dr (.one true 0 (.one true 1 (.one true 2 (.one true 3 (.one true 4 (.one true 5 (.one true 6 (.one true 7 (.one true 8 (.one true 9 (.one true 10 (.one true 11 (.one true 12 (.one true 13 (.one true 14 (.one false 15 (.one true 16 .nil))))))))))))))))) mixed (by kernel_rfl) ?_; refine sx ?_
      refine s_rw (t := 44) (v' := .int .i64 ((at' : Nat) : Int)) rfl (ci (by omega)) ?_
      refine sx ?_
      refine s_rw (t := 49) (v' := .slice (Sx.sl a c at' 1) ((xs.drop at').take n).length (c - at')) rfl (by rw [hxl]; congr 1; omega) ?_
      refine s_call rfl (qcopy0_s (xs := (xs.drop at').take n) hr.tl (by omega)) ?_
      rintro _ _ ⟨a5, rfl, rfl⟩
      refine ⟨chk_held (by exact ent), ?_⟩
      refine sx ?_
      refine s_ret1 rfl rfl ⟨a5, at' + n, by rw [e], by omega, by rw [e, List.drop_drop], by rw [e]⟩ ?_
      exact Ent.refl
  · have e := takeS_none (n := n) (s := (xs.drop at', true)) (.inl rfl)
    refine sx ?_
    exact s_ret1 (H' := ob none 0 [] :: .hb S 181 [.slice a xs.length c, .int .i64 (at' : Int), .bool true] :: H) rfl rfl (hnone e _ Ent.refl) Ent.nilS
abbrev RnmR (S k : Nat) (s : SrcB) (xs : Bs) (a : Option Addr) (c : Nat) (H : List Ck) : Value → List Ck → Prop := fun v H' => ∃ p, v = .int .u64 ((numS k s).1 : Int) ∧ p ≤ xs.length ∧ (numS k s).2.1 = xs.drop p ∧ H' = .hb S 181 [.slice a xs.length c, .int .i64 (p : Int), .bool (numS k s).2.2] :: H
theorem rnums_s {S k c at' : Nat} {a : Option Addr} {xs : Bs} {s : SrcB} (hx : RBy w0 H a c xs) (hat : at' ≤ xs.length) (hs : s.1 = xs.drop at') (hk : k ≤ 8) (hl : xs.length ≤ 140737488355328) :
    FnS Tryz.prog w0 (.hb S 181 [.slice a xs.length c, .int .i64 (at' : Int), .bool s.2] :: H) 160 #[.pointer (some ⟨S, 0, none⟩), .int .i64 (k : Int)] (RnmR S k s xs a c H) := by
  refine fns_enter Tryz.func160 rfl rfl rfl ?_
  refine sx ?_
  refine s_call rfl (rtake_s (n := k) hx hat hs (by omega) hl) ?_
  rintro _ _ ⟨ra, p, rfl, hp, hr, rfl⟩
  refine ⟨chk_seq, ?_⟩
  have hlen := takeS_len k s
  have e : numS k s = (beN (takeS k s).1, (takeS k s).2) := rfl
  generalize takeS k s = t at hlen hr e ⊢
  obtain ⟨x, ys, bd⟩ := t
  simp only at hlen hr e ⊢
  refine sx ?_
  refine s_loop (fun i : Nat => [(5, .slice ra x.length x.length), (6, .int .u64 (beN (x.take i) : Int)), (7, .int .i64 i)]) (fun _ => ob ra x.length x :: .hb S 181 [.slice a xs.length c, .int .i64 (p : Int), .bool bd] :: H) (fun i => i ≤ x.length) (fun i => x.length - i) 0 (Nat.zero_le _) ?_
  intro i hi
  refine sx ?_
  refine s_if rfl (fun t1 => ?_) (fun t1 => ?_)
  · obtain ⟨u, hu⟩ := get_lt x i (by omega)
    have h1 := beN_step hu
    have h2 := beN_bd (x.take i) (k := 7) (by rw [List.length_take]; omega)
    have h3 : x.getD i 0 = u := by simp [List.getD, hu]
    have h4 := u.toNat_lt
    refine sx ?_
    refine s_yS rfl rfl rfl (y_shlU rfl (by omega)) ?_
    refine sx ?_
    refine s_rw (t := 23) (v' := .int .u64 ((u.toNat : Nat) : Int)) rfl (by rw [h3, wrap_u64 (by omega)]) ?_
    refine s_yS rfl rfl rfl (y_orU rfl rfl (by omega) (by omega)) ?_
    refine sx ?_
    exact s_again (i + 1) (by omega) (by omega)
  · obtain rfl : i = x.length := by omega
    rw [List.take_length]
    refine sx ?_
    refine s_ret1 rfl rfl ⟨p, by rw [e], hp, by rw [e]; exact hr, by rw [e]⟩ (Ent.tl Ent.refl)
end Go.Sx
namespace Go.Sx
open Go Go.Proofs
set_option maxRecDepth 10000
variable {w0 : World} {H : List Ck}
theorem q_ret3 {fn : Func} {R : Value → World → Prop} {P : Program} {n : Nat} {l : List (Nat × Value)} {w : World} {t u x : Tmp} {v v' v2 : Value} (hr : fn.results = #[.tmp t, .tmp u, .tmp x]) (hl : look l t = some v) (hl' : look l u = some v') (hl2 : look l x = some v2) (h : R (.tuple #[v, v', v2]) w) :
    QJ n dx0 (bodyPost P fn (RetR R)) .ret l w := .mk fun a ha =>
  ⟨ha.defers, .tuple #[v, v', v2], by simp [results, hr, Array.getD_eq_getD_getElem?, ha.has _ _ hl, ha.has _ _ hl', ha.has _ _ hl2], _, rfl, h⟩
theorem s_ret3 {fn : Func} {R : Value → List Ck → Prop} {P : Program} {n : Nat} {l : List (Nat × Value)} {H H' : List Ck} {t u x : Tmp} {v v' v2 : Value} (hr : fn.results = #[.tmp t, .tmp u, .tmp x]) (hl : look l t = some v) (hl' : look l u = some v') (hl2 : look l x = some v2) (h : R (.tuple #[v, v', v2]) H') (he : Ent H H' := by exact ent) :
    SQ n dx0 (bodyPost P fn (RetR (RS w0 R))) .ret l w0 H := .mk fun _ hs => q_ret3 hr hl hl' hl2 ⟨H', h, hs.ent he⟩
structure RdcI where
  n : Nat
  a7 : Option Addr
  c7 : Nat
  ms : List Mg
  p : Nat
  s : SrcB
abbrev RdmR (xs : Bs) (H : List Ck) : Value → List Ck → Prop := fun v H' => ∃ a c ms p, v = .tuple #[.slice a (ms : List Mg).length c, .int .i64 ((p : Nat) : Int), .bool (!(srcM xs).2.2)] ∧ ms.map Mg.d = (srcM xs).1 ∧ p ≤ xs.length ∧ (srcM xs).2.1 = xs.drop p ∧ (∀ u ∈ ms, 0 ≤ u.st ∧ u.st < 18446744073709551616) ∧ H' = ol 35 a c ms :: stars oM ms :: H
set_option maxHeartbeats 4000000 in
theorem rread7_s {a : Option Addr} {c : Nat} {xs : Bs} (hx : RBy w0 H a c xs) (hl : xs.length ≤ 140737488355328) : FnS Tryz.prog w0 H 132 #[.slice a xs.length c] (RdmR xs H) := by
  refine fns_enter Tryz.func132 rfl rfl rfl ?_
  refine sx ?_
  refine s_boxA (cs := [.slice a xs.length c, .int .i64 0, .bool false]) rfl fun S => ?_
  refine sx ?_
  refine s_entL (.hb S 181 [.slice a xs.length c, .int .i64 ((0 : Nat) : Int), .bool (xs, false).2] :: H) Ent.refl ?_
  refine s_call rfl (rnums_s (s := (xs, false)) (k := 4) (at' := 0) hx (Nat.zero_le _) (by simp) (by omega) hl) ?_
  rintro _ _ ⟨q0, rfl, hq0, rq0, rfl⟩
  have hsrc : srcM xs = loopS (numS 4 (xs, false)).1 [] (numS 4 (xs, false)).2 := rfl
  have b0 := numS_lt 4 (xs, false)
  generalize numS 4 (xs, false) = p0 at rq0 hsrc b0 ⊢
  obtain ⟨N, s0⟩ := p0
  simp only at rq0 hsrc b0 ⊢
  refine ⟨chk_seq, ?_⟩
  refine sx ?_
  refine s_cutB (ι := RdcI) (fun m => [(5, .pointer (some ⟨S, 0, none⟩)), (7, .slice m.a7 m.ms.length m.c7)]) (fun m => .hb S 181 [.slice a xs.length c, .int .i64 (m.p : Int), .bool m.s.2] :: ol 35 m.a7 m.c7 m.ms :: stars oM m.ms :: H) (fun m => srcM xs = (m.ms.map Mg.d, m.s) ∧ m.p ≤ xs.length ∧ m.s.1 = xs.drop m.p ∧ (∀ u ∈ m.ms, 0 ≤ u.st ∧ u.st < 18446744073709551616) ∧ m.ms.length ≤ 4294967296) ?_ ?_
  · refine s_loop (fun m : RdcI => [(5, .pointer (some ⟨S, 0, none⟩)), (6, .int .u64 (N : Int)), (7, .slice m.a7 m.ms.length m.c7), (8, .int .u64 ((m.ms.length : Nat) : Int))]) (fun m => .hb S 181 [.slice a xs.length c, .int .i64 (m.p : Int), .bool m.s.2] :: ol 35 m.a7 m.c7 m.ms :: stars oM m.ms :: H)
      (fun m => srcM xs = loopS m.n (m.ms.map Mg.d) m.s ∧ m.n + m.ms.length = N ∧ m.p ≤ xs.length ∧ m.s.1 = xs.drop m.p ∧ ∀ u ∈ m.ms, 0 ≤ u.st ∧ u.st < 18446744073709551616) (fun m => m.n) ⟨N, none, 0, [], q0, s0⟩ ⟨hsrc, rfl, hq0, rq0, fun u h => by cases h⟩ ?_ (he := Ent.head nilM)
    rintro ⟨n, a7, c7, ms, p, s⟩ ⟨he, hn, hp, hr, hst⟩
    simp only at he hn hp hr hst ⊢
    refine sx ?_
    refine s_lif rfl (fun t1 => ?_) (fun t1 => ?_)
    rotate_left
    · obtain rfl : n = 0 := by omega
      refine sx ?_
      exact s_mid ⟨0, a7, c7, ms, p, s⟩ ⟨he, hp, hr, hst, by simp only; omega⟩ (he := Ent.refl)
    obtain ⟨k, rfl⟩ : ∃ k, n = k + 1 := ⟨n - 1, by omega⟩
    obtain ⟨ys, bad⟩ := s
    simp only at hr ⊢
    rw [loopS] at he
    cases bad
    rotate_left
    · rw [if_pos rfl] at he
      refine sx ?_
      exact s_mid ⟨0, a7, c7, ms, p, (ys, true)⟩ ⟨he, hp, hr, hst, by simp only; omega⟩ (he := Ent.refl)
    rw [if_neg (by simp)] at he
    have hq1 := hp
    have rq1 : (ys, false).1 = xs.drop p := hr
    refine sx ?_
    refine s_entL (.hb S 181 [.slice a xs.length c, .int .i64 (p : Int), .bool (ys, false).2] :: ol 35 a7 c7 ms :: stars oM ms :: H) (by first | exact entq | exact ent) ?_
    refine s_call rfl (rnums_s (s := (ys, false)) (k := 8) (at' := p) (by exact rby) hp rq1 (by omega) hl) ?_
    rintro _ _ ⟨q1, rfl, hq1, rq1, rfl⟩
    have bs1 := numS_lt 8 (ys, false)
    generalize hs1 : numS 8 (ys, false) = ps1 at rq1 bs1 ⊢
    obtain ⟨v1, s1⟩ := ps1
    simp only at rq1 bs1 ⊢
    refine ⟨chk_seq, ?_⟩
    refine sx ?_
    refine s_alloc fun b9 => ?_
    refine sx ?_
    refine s_entL (.hb S 181 [.slice a xs.length c, .int .i64 (q1 : Int), .bool s1.2] :: .hb b9 35 [.int .u64 (v1 : Int), .int .i64 0, .slice none 0 0, .slice none 0 0, .slice none 0 0] :: ol 35 a7 c7 ms :: stars oM ms :: H) (by first | exact entq | exact ent) ?_
    refine s_call rfl (rnums_s (s := s1) (k := 1) (at' := q1) (by exact rby) hq1 rq1 (by omega) hl) ?_
    rintro _ _ ⟨q2, rfl, hq2, rq2, rfl⟩
    have bs2 := numS_lt 1 s1
    generalize hs2 : numS 1 s1 = ps2 at rq2 bs2 ⊢
    obtain ⟨v2, s2⟩ := ps2
    simp only at rq2 bs2 ⊢
    refine ⟨chk_seq, ?_⟩
    refine sx ?_
    refine s_entL (.hb S 181 [.slice a xs.length c, .int .i64 (q2 : Int), .bool s2.2] :: .hb b9 35 [.int .u64 (v1 : Int), .int .i64 (v2 : Int), .slice none 0 0, .slice none 0 0, .slice none 0 0] :: ol 35 a7 c7 ms :: stars oM ms :: H) (by first | exact entq | exact ent) ?_
    refine s_call rfl (rnums_s (s := s2) (k := 2) (at' := q2) (by exact rby) hq2 rq2 (by omega) hl) ?_
    rintro _ _ ⟨q3, rfl, hq3, rq3, rfl⟩
    have bs3 := numS_lt 2 s2
    generalize hs3 : numS 2 s2 = ps3 at rq3 bs3 ⊢
    obtain ⟨v3, s3⟩ := ps3
    simp only at rq3 bs3 ⊢
    refine ⟨chk_seq, ?_⟩
    refine sx ?_
    refine s_entL (.hb S 181 [.slice a xs.length c, .int .i64 (q3 : Int), .bool s3.2] :: .hb b9 35 [.int .u64 (v1 : Int), .int .i64 (v2 : Int), .slice none 0 0, .slice none 0 0, .slice none 0 0] :: ol 35 a7 c7 ms :: stars oM ms :: H) (by first | exact entq | exact ent) ?_
    refine s_call rfl (rnums_s (s := s3) (k := 2) (at' := q3) (by exact rby) hq3 rq3 (by omega) hl) ?_
    rintro _ _ ⟨q4, rfl, hq4, rq4, rfl⟩
    have bs4 := numS_lt 2 s3
    generalize hs4 : numS 2 s3 = ps4 at rq4 bs4 ⊢
    obtain ⟨v4, s4⟩ := ps4
    simp only at rq4 bs4 ⊢
    refine ⟨chk_seq, ?_⟩
    refine sx ?_
    refine s_entL (.hb S 181 [.slice a xs.length c, .int .i64 (q4 : Int), .bool s4.2] :: .hb b9 35 [.int .u64 (v1 : Int), .int .i64 (v2 : Int), .slice none 0 0, .slice none 0 0, .slice none 0 0] :: ol 35 a7 c7 ms :: stars oM ms :: H) (by first | exact entq | exact ent) ?_
    refine s_call rfl (rtake_s (s := s4) (n := v3) (at' := q4) (by exact rby) hq4 rq4 (by omega) hl) ?_
    rintro _ _ ⟨rx, q5, rfl, hq5, rq5, rfl⟩
    have ls5 := takeS_len v3 s4
    generalize hs5 : takeS v3 s4 = ps5 at rq5 ls5 ⊢
    obtain ⟨x, s5⟩ := ps5
    simp only at rq5 ls5 ⊢
    refine ⟨chk_seq, ?_⟩
    refine sx ?_
    refine s_entL (.hb S 181 [.slice a xs.length c, .int .i64 (q5 : Int), .bool s5.2] :: ob rx x.length x :: .hb b9 35 [.int .u64 (v1 : Int), .int .i64 (v2 : Int), .slice rx x.length x.length, .slice none 0 0, .slice none 0 0] :: ol 35 a7 c7 ms :: stars oM ms :: H) (by first | exact entq | exact ent) ?_
    refine s_call rfl (rtake_s (s := s5) (n := v4) (at' := q5) (by exact rby) hq5 rq5 (by omega) hl) ?_
    rintro _ _ ⟨ry, q6, rfl, hq6, rq6, rfl⟩
    have ls6 := takeS_len v4 s5
    generalize hs6 : takeS v4 s5 = ps6 at rq6 ls6 ⊢
    obtain ⟨y, s6⟩ := ps6
    simp only at rq6 ls6 ⊢
    refine ⟨chk_seq, ?_⟩
    refine sx ?_
    refine s_if rfl (fun t3 => ?_) (fun t3 => ?_)
    · refine sx ?_
      have ho : oneS (ys, false) = (Mg.d (⟨(v1 : Int), (v2 : Int), rx, x.length, x, ry, y.length, y, none, 0, []⟩ : Mg), s6) := by simp only [oneS, hs1, hs2, hs3, hs4, hs5, hs6, t3, if_true, if_false]
      rw [ho] at he
      refine sx ?_
      refine s_bsl [((⟨(v1 : Int), (v2 : Int), rx, x.length, x, ry, y.length, y, none, 0, []⟩ : Mg) : Mg)] rfl rfl fun b61 => ?_
      refine sx ?_
      refine s_app (xs := ms) ?_ (hby := by simp only [List.length_cons, List.length_nil]; omega)
      intro a8 c8
      refine sx ?_
      refine s_yS rfl rfl rfl (y_addU (a := ms.length) (c := 1) rfl rfl (by omega)) ?_
      refine sx ?_
      refine s_rwQ (t := 8) (v' := .int .u64 (((ms ++ [(⟨(v1 : Int), (v2 : Int), rx, x.length, x, ry, y.length, y, none, 0, []⟩ : Mg)]).length : Nat) : Int)) rfl (by rw [List.length_append]; rfl) ?_
      refine s_again ⟨k, a8, c8, ms ++ [(⟨(v1 : Int), (v2 : Int), rx, x.length, x, ry, y.length, y, none, 0, []⟩ : Mg)], q6, s6⟩ ⟨by rw [List.map_append]; exact he, by simp only [List.length_append, List.length_cons, List.length_nil]; omega, hq6, rq6, ?_⟩ (by simp only; omega) (he := ?_)
      · intro u hu
        rcases List.mem_append.1 hu with h | h
        · exact hst u h
        · rw [List.mem_singleton.1 h]; simp only; omega
      · refine Ent.cons (by exact rm) (Ent.cons (by exact rm) ?_)
        refine Ent.trans (H' := oM (⟨(v1 : Int), (v2 : Int), rx, x.length, x, ry, y.length, y, none, 0, []⟩ : Mg) ++ stars oM ms :: H) ?_ stars_snoc
        exact Ent.cons (by exact rm) (Ent.cons (by exact rm) (Ent.addNil (by exact ent)))
    · refine sx ?_
      have ho : oneS (ys, false) = (Mg.d (⟨(v1 : Int), (v2 : Int), rx, x.length, x, none, 0, [], ry, y.length, y⟩ : Mg), s6) := by simp only [oneS, hs1, hs2, hs3, hs4, hs5, hs6, t3, if_true, if_false]
      rw [ho] at he
      refine sx ?_
      refine s_bsl [((⟨(v1 : Int), (v2 : Int), rx, x.length, x, none, 0, [], ry, y.length, y⟩ : Mg) : Mg)] rfl rfl fun b61 => ?_
      refine sx ?_
      refine s_app (xs := ms) ?_ (hby := by simp only [List.length_cons, List.length_nil]; omega)
      intro a8 c8
      refine sx ?_
      refine s_yS rfl rfl rfl (y_addU (a := ms.length) (c := 1) rfl rfl (by omega)) ?_
      refine sx ?_
      refine s_rwQ (t := 8) (v' := .int .u64 (((ms ++ [(⟨(v1 : Int), (v2 : Int), rx, x.length, x, none, 0, [], ry, y.length, y⟩ : Mg)]).length : Nat) : Int)) rfl (by rw [List.length_append]; rfl) ?_
      refine s_again ⟨k, a8, c8, ms ++ [(⟨(v1 : Int), (v2 : Int), rx, x.length, x, none, 0, [], ry, y.length, y⟩ : Mg)], q6, s6⟩ ⟨by rw [List.map_append]; exact he, by simp only [List.length_append, List.length_cons, List.length_nil]; omega, hq6, rq6, ?_⟩ (by simp only; omega) (he := ?_)
      · intro u hu
        rcases List.mem_append.1 hu with h | h
        · exact hst u h
        · rw [List.mem_singleton.1 h]; simp only; omega
      · refine Ent.cons (by exact rm) (Ent.cons (by exact rm) ?_)
        refine Ent.trans (H' := oM (⟨(v1 : Int), (v2 : Int), rx, x.length, x, none, 0, [], ry, y.length, y⟩ : Mg) ++ stars oM ms :: H) ?_ stars_snoc
        exact Ent.cons (by exact rm) (Ent.addNil (Ent.cons (by exact rm) (by exact ent)))
  rintro ⟨n, a7, c7, ms, p, ys, bad⟩ ⟨hsr, hp, hr, hst, hml⟩
  simp only at hsr hp hr hst hml ⊢
  refine sx ?_
  refine sx ?_; refine s_dr (.one true 0 (.one true 1 (.one true 2 (.one true 3 (.one true 4 (.one true 5 (.one true 6 (.one true 7 (.one true 8 (.one true 9 (.one true 10 (.one true 11 (.one true 12 .nil))))))))))))) mixed (by kernel_rfl) ?_; refine sx ?_
  refine s_ret3 rfl rfl rfl rfl ⟨a7, c7, ms, p, by rw [hsr], by rw [hsr], hp, by rw [hsr]; exact hr, hst, rfl⟩ (Ent.tl Ent.refl)
end Go.Sx

