/- Messages that are read, by the document. -/
import Derived.Test.YtimakbpghggdfaaGreatCV5
namespace Go.Sx
open Go Go.Proofs
set_option maxRecDepth 10000
variable {w0 : World} {H : List Ck}
abbrev RtkR (S n : Nat) (s : SrcB) (xs : Bs) (a : Option Addr) (c : Nat) (H : List Ck) : Value → List Ck → Prop := fun v H' => ∃ ra p, v = .slice ra (takeS n s).1.length (takeS n s).1.length ∧ p ≤ xs.length ∧ (takeS n s).2.1 = xs.drop p ∧ H' = ob ra (takeS n s).1.length (takeS n s).1 :: .hb S 181 [.slice a xs.length c, .int .i64 (p : Int), .bool (takeS n s).2.2] :: H
set_option maxHeartbeats 1000000 in
theorem rtake_s {S n c at' : Nat} {a : Option Addr} {xs : Bs} {s : SrcB} (hx : RBy w0 H a c xs) (hat : at' ≤ xs.length) (hs : s.1 = xs.drop at') (hn : n ≤ 4294967296) (hl : xs.length ≤ 140737488355328) :
    FnS Tryz.prog w0 (.hb S 181 [.slice a xs.length c, .int .i64 (at' : Int), .bool s.2] :: H) 161 #[.pointer (some ⟨S, 0, none⟩), .int .i64 (n : Int)] (RtkR S n s xs a c H) := by
  obtain ⟨ys, bad⟩ := s
  simp only at hs ⊢
  subst hs
  refine fns_enter Tryz.func161 rfl rfl rfl ?_
  refine s_kn (Kn.by hx).tl fun l1 => ?_
  simp only [maxLen] at l1
  have hdl : (xs.drop at').length = xs.length - at' := List.length_drop
  have hnone : takeS n (xs.drop at', bad) = ([], (xs.drop at', true)) → ∀ H1, Ent H1 (ob none 0 [] :: .hb S 181 [.slice a xs.length c, .int .i64 (at' : Int), .bool true] :: H) → RtkR S n (xs.drop at', bad) xs a c H (.slice none 0 0) (ob none 0 [] :: .hb S 181 [.slice a xs.length c, .int .i64 (at' : Int), .bool true] :: H) := fun e _ _ => ⟨none, at', by rw [e]; rfl, hat, by rw [e], by rw [e]; rfl⟩
  refine sx ?_; refine s_dr (.one true 0 (.one true 1 (.one true 2 (.one true 3 (.one true 4 (.one true 5 (.one true 6 (.one true 7 (.one true 8 (.one true 9 (.one true 10 (.one true 11 (.one true 12 (.one true 13 (.one true 14 (.one true 15 (.one true 16 (.one true 17 .nil)))))))))))))))))) mixed (by kernel_rfl) ?_; refine sx ?_
  cases bad
  · refine sx ?_
    refine s_if rfl (fun t1 => ?_) (fun t1 => ?_)
    · have e := takeS_none (n := n) (s := (xs.drop at', false)) (.inr (by simp only; omega))
      refine sx ?_
      exact s_ret1 (H' := ob none 0 [] :: .hb S 181 [.slice a xs.length c, .int .i64 (at' : Int), .bool true] :: H) rfl rfl (hnone e _ Ent.refl) Ent.nilS
    · have e := takeS_some (n := n) (s := (xs.drop at', false)) rfl (by simp only; omega)
      have hxl : ((xs.drop at').take n).length = n := by rw [List.length_take, hdl]; omega
      have hed : (xs.take (at' + n)).drop at' = (xs.drop at').take n := by rw [List.drop_take]; congr 1; omega
      have hr := hx.sl (j := at') (k := at' + n) (by omega) (by omega)
      rw [hed] at hr
      refine sx ?_
      refine s_ent (.hb S 181 [.slice a xs.length c, .int .i64 ((at' + n : Nat) : Int), .bool false] :: H) Ent.refl ?_
      refine sx ?_; refine s_dr (.one true 0 (.one true 1 (.one true 2 (.one true 3 (.one true 4 (.one true 5 (.one true 6 (.one true 7 (.one true 8 (.one true 9 (.one true 10 (.one true 11 (.one true 12 (.one true 13 (.one true 14 (.one false 15 (.one true 16 .nil))))))))))))))))) mixed (by kernel_rfl) ?_; refine sx ?_
      refine s_rw (t := 44) (v' := .int .i64 ((at' : Nat) : Int)) rfl (ci (by omega)) ?_
      refine sx ?_
      refine s_rw (t := 49) (v' := .slice (Sx.sl a c at' 1) ((xs.drop at').take n).length (c - at')) rfl (by rw [hxl]; congr 1; omega) ?_
      refine s_call rfl (qcopy0_s (xs := (xs.drop at').take n) hr.tl (by omega)) ?_
      rintro _ _ ⟨a5, rfl, rfl⟩
      refine ⟨chk_held (by exact ent), ?_⟩
      refine sx ?_
      refine s_ret1 rfl rfl ⟨a5, at' + n, by rw [e], by omega, by rw [e, List.drop_drop], by rw [e]⟩ ?_
      exact Ent.refl
  · have e := takeS_none (n := n) (s := (xs.drop at', true)) (.inl rfl)
    refine sx ?_
    exact s_ret1 (H' := ob none 0 [] :: .hb S 181 [.slice a xs.length c, .int .i64 (at' : Int), .bool true] :: H) rfl rfl (hnone e _ Ent.refl) Ent.nilS
abbrev RnmR (S k : Nat) (s : SrcB) (xs : Bs) (a : Option Addr) (c : Nat) (H : List Ck) : Value → List Ck → Prop := fun v H' => ∃ p, v = .int .u64 ((numS k s).1 : Int) ∧ p ≤ xs.length ∧ (numS k s).2.1 = xs.drop p ∧ H' = .hb S 181 [.slice a xs.length c, .int .i64 (p : Int), .bool (numS k s).2.2] :: H
theorem rnums_s {S k c at' : Nat} {a : Option Addr} {xs : Bs} {s : SrcB} (hx : RBy w0 H a c xs) (hat : at' ≤ xs.length) (hs : s.1 = xs.drop at') (hk : k ≤ 8) (hl : xs.length ≤ 140737488355328) :
    FnS Tryz.prog w0 (.hb S 181 [.slice a xs.length c, .int .i64 (at' : Int), .bool s.2] :: H) 160 #[.pointer (some ⟨S, 0, none⟩), .int .i64 (k : Int)] (RnmR S k s xs a c H) := by
  refine fns_enter Tryz.func160 rfl rfl rfl ?_
  refine sx ?_
  refine s_call rfl (rtake_s (n := k) hx hat hs (by omega) hl) ?_
  rintro _ _ ⟨ra, p, rfl, hp, hr, rfl⟩
  refine ⟨chk_seq, ?_⟩
  have hlen := takeS_len k s
  have e : numS k s = (beN (takeS k s).1, (takeS k s).2) := rfl
  generalize takeS k s = t at hlen hr e ⊢
  obtain ⟨x, ys, bd⟩ := t
  simp only at hlen hr e ⊢
  refine sx ?_
  refine s_loop (fun i : Nat => [(5, .slice ra x.length x.length), (6, .int .u64 (beN (x.take i) : Int)), (7, .int .i64 i)]) (fun _ => ob ra x.length x :: .hb S 181 [.slice a xs.length c, .int .i64 (p : Int), .bool bd] :: H) (fun i => i ≤ x.length) (fun i => x.length - i) 0 (Nat.zero_le _) ?_
  intro i hi
  refine sx ?_
  refine s_if rfl (fun t1 => ?_) (fun t1 => ?_)
  · obtain ⟨u, hu⟩ := get_lt x i (by omega)
    have h1 := beN_step hu
    have h2 := beN_bd (x.take i) (k := 7) (by rw [List.length_take]; omega)
    have h3 : x.getD i 0 = u := by simp [List.getD, hu]
    have h4 := u.toNat_lt
    refine sx ?_
    refine s_yS rfl rfl rfl (y_shlU rfl (by omega)) ?_
    refine sx ?_
    refine s_rw (t := 23) (v' := .int .u64 ((u.toNat : Nat) : Int)) rfl (by rw [h3, wrap_u64 (by omega)]) ?_
    refine s_yS rfl rfl rfl (y_orU rfl rfl (by omega) (by omega)) ?_
    refine sx ?_
    exact s_again (i + 1) (by omega) (by omega)
  · obtain rfl : i = x.length := by omega
    rw [List.take_length]
    refine sx ?_
    refine s_ret1 rfl rfl ⟨p, by rw [e], hp, by rw [e]; exact hr, by rw [e]⟩ (Ent.tl Ent.refl)
end Go.Sx
