/- Part of a proof: the chapter's examples; are two lists one? The law DeadNames. -/
import Derived.Test.YtceandgmpcpmfaaCD9
namespace Go.Sx
open Go Go.Proofs
set_option maxRecDepth 10000
variable {w0 : World} {H : List Ck}
theorem sameI_s {a a' : Option Addr} {c c' : Nat} {xs ys : List Int} (hx : RSl w0 H a c xs) (hy : RSl w0 H a' c' ys) : FnV Try.prog w0 H 19 #[.slice a xs.length c, .slice a' ys.length c'] (.bool (decide (xs = ys))) := by
  refine fns_enter Try.func19 rfl rfl rfl ?_
  refine s_kn (Kn.sl hx) fun l1 => s_kn (Kn.sl hy) fun l2 => ?_
  simp only [maxLen] at l1 l2
  refine sx ?_
  refine s_ifn rfl (fun t1 => ?_) (fun t1 => ?_)
  · refine sx ?_
    refine s_ret1 rfl rfl ⟨?_, rfl⟩
    rw [decide_eq_false (fun e => t1 (by rw [e]))]
  have hl : xs.length = ys.length := by omega
  refine sx ?_
  refine s_loop (fun i : Nat => [(0, .slice a xs.length c), (1, .slice a' ys.length c'), (5, .int .i64 i)]) (fun _ => H) (fun i => i ≤ xs.length ∧ xs.take i = ys.take i) (fun i => xs.length - i) 0 ⟨Nat.zero_le _, rfl⟩ ?_
  rintro i ⟨hi, he⟩
  refine sx ?_
  refine s_if rfl (fun t2 => ?_) (fun t2 => ?_)
  · obtain ⟨x, hxi⟩ := get_lt xs i (by omega)
    obtain ⟨y, hyi⟩ := get_lt ys i (by omega)
    refine sx ?_; refine s_dr (.one true 0 (.one true 1 (.one true 2 (.one true 3 (.one true 4 (.one true 5 (.one true 6 (.one true 7 (.one true 8 .nil))))))))) mixed (by kernel_rfl) ?_; refine sx ?_
    refine s_ifn rfl (fun t3 => ?_) (fun t3 => ?_)
    · refine sx ?_
      refine s_ret1 rfl rfl ⟨?_, rfl⟩
      rw [decide_eq_false (fun e => t3 (by rw [e, hyi] at hxi; cases hxi; rfl))]
    · refine sx ?_
      refine s_again (i + 1) ⟨by omega, ?_⟩ (by omega)
      rw [snocT hxi, snocT hyi, he, t3]
  · obtain rfl : i = xs.length := by omega
    rw [List.take_length, hl, List.take_length] at he
    refine sx ?_
    exact s_ret1 rfl rfl ⟨by rw [decide_eq_true he], rfl⟩
theorem sameL_s {a a' : Option Addr} {c c' : Nat} {xs ys : List Lf} (hx : RSl w0 H a c xs) (hy : RSl w0 H a' c' ys) : FnV Try.prog w0 H 13 #[.slice a xs.length c, .slice a' ys.length c'] (.bool (decide (xs = ys))) := by
  refine fns_enter Try.func13 rfl rfl rfl ?_
  refine s_kn (Kn.sl hx) fun l1 => s_kn (Kn.sl hy) fun l2 => ?_
  simp only [maxLen] at l1 l2
  refine sx ?_
  refine s_ifn rfl (fun t1 => ?_) (fun t1 => ?_)
  · refine sx ?_
    refine s_ret1 rfl rfl ⟨?_, rfl⟩
    rw [decide_eq_false (fun e => t1 (by rw [e]))]
  have hl : xs.length = ys.length := by omega
  refine sx ?_
  refine s_loop (fun i : Nat => [(0, .slice a xs.length c), (1, .slice a' ys.length c'), (5, .int .i64 i)]) (fun _ => H) (fun i => i ≤ xs.length ∧ xs.take i = ys.take i) (fun i => xs.length - i) 0 ⟨Nat.zero_le _, rfl⟩ ?_
  rintro i ⟨hi, he⟩
  refine sx ?_
  refine s_if rfl (fun t2 => ?_) (fun t2 => ?_)
  · obtain ⟨x, hxi⟩ := get_lt xs i (by omega)
    obtain ⟨y, hyi⟩ := get_lt ys i (by omega)
    refine sx ?_; refine s_dr (.one true 0 (.one true 1 (.one true 2 (.one true 3 (.one true 4 (.one true 5 (.one true 6 (.one true 7 (.one true 8 .nil))))))))) mixed (by kernel_rfl) ?_; refine sx ?_
    refine (s_gH (s_yH rfl rfl rfl (y_neA x y rfl rfl rfl rfl) ?_))
    refine sx ?_
    refine s_ifn rfl (fun t3 => ?_) (fun t3 => ?_)
    · refine sx ?_
      refine s_ret1 rfl rfl ⟨?_, rfl⟩
      rw [decide_eq_false (fun e => t3 (by rw [e, hyi] at hxi; cases hxi; rfl))]
    · refine sx ?_
      refine s_again (i + 1) ⟨by omega, ?_⟩ (by omega)
      rw [snocT hxi, snocT hyi, he, t3]
  · obtain rfl : i = xs.length := by omega
    rw [List.take_length, hl, List.take_length] at he
    refine sx ?_
    exact s_ret1 rfl rfl ⟨by rw [decide_eq_true he], rfl⟩
set_option maxHeartbeats 1000000 in
theorem awake_s : FnV Try.prog w0 H 7 #[] (.bool true) := by
  have e1 : putV [] ⟨7, 3, 5⟩ = [⟨7, 3, 5⟩] := by decide
  have e2 : putV [⟨7, 3, 5⟩] ⟨7, 5, 9⟩ = [⟨7, 3, 5⟩, ⟨7, 5, 9⟩] := by decide
  have e3 : putV [⟨7, 3, 5⟩, ⟨7, 5, 9⟩] ⟨8, 1, 9⟩ = [⟨7, 3, 5⟩, ⟨7, 5, 9⟩, ⟨8, 1, 9⟩] := by decide
  have e4 : putV [⟨7, 3, 5⟩, ⟨7, 5, 9⟩, ⟨8, 1, 9⟩] ⟨7, 4, 6⟩ = [⟨7, 3, 5⟩, ⟨7, 5, 9⟩, ⟨8, 1, 9⟩] := by decide
  have e5 : putV [⟨7, 3, 5⟩, ⟨7, 5, 9⟩, ⟨8, 1, 9⟩] ⟨1, 3, 5⟩ = [⟨7, 3, 5⟩, ⟨7, 5, 9⟩, ⟨8, 1, 9⟩] := by decide
  have s1 : Srt [⟨7, 3, 5⟩] := by rw [← e1]; exact putV_srt Srt.nil
  have s2 : Srt [⟨7, 3, 5⟩, ⟨7, 5, 9⟩] := by rw [← e2]; exact putV_srt s1
  have s3 : Srt [⟨7, 3, 5⟩, ⟨7, 5, 9⟩, ⟨8, 1, 9⟩] := by rw [← e3]; exact putV_srt s2
  have f1 : putE [] ⟨7, 3, 5⟩ = 0 := by decide
  have f2 : putE [⟨7, 3, 5⟩] ⟨7, 5, 9⟩ = 0 := by decide
  have f3 : putE [⟨7, 3, 5⟩, ⟨7, 5, 9⟩] ⟨8, 1, 9⟩ = 0 := by decide
  have f4 : putE [⟨7, 3, 5⟩, ⟨7, 5, 9⟩, ⟨8, 1, 9⟩] ⟨7, 4, 6⟩ = 102 := by decide
  have f5 : putE [⟨7, 3, 5⟩, ⟨7, 5, 9⟩, ⟨8, 1, 9⟩] ⟨1, 3, 5⟩ = 101 := by decide
  have h1 : heldV [⟨7, 3, 5⟩, ⟨7, 5, 9⟩, ⟨8, 1, 9⟩] 5 = [7, 8] := by decide
  have h2 : freeV [⟨7, 3, 5⟩, ⟨7, 5, 9⟩, ⟨8, 1, 9⟩] (ssN [⟨5⟩, ⟨5⟩]) = [7] := by decide
  have h3 : keptV [⟨7, 3, 5⟩, ⟨7, 5, 9⟩, ⟨8, 1, 9⟩] (ssN [⟨5⟩, ⟨5⟩]) = [⟨7, 5, 9⟩, ⟨8, 1, 9⟩] := by decide
  refine fns_enter Try.func7 rfl rfl rfl ?_
  refine sx ?_
  refine s_call rfl dnew_s ?_
  rintro _ _ ⟨d, rfl, rfl⟩
  refine ⟨chk_seq, ?_⟩
  refine sx ?_
  refine s_call rfl (dput_s (xs := []) (x := ⟨7, 3, 5⟩) Srt.nil (by decide)) ?_
  rintro _ _ ⟨rfl, a1, c1, rfl⟩
  rw [e1, f1]
  refine ⟨chk_seq, ?_⟩
  refine sx ?_
  refine s_call rfl (dput_s (xs := [⟨7, 3, 5⟩]) (x := ⟨7, 5, 9⟩) s1 (by decide)) ?_
  rintro _ _ ⟨rfl, a2, c2, rfl⟩
  rw [e2, f2]
  refine ⟨chk_seq, ?_⟩
  refine sx ?_
  refine s_call rfl (dput_s (xs := [⟨7, 3, 5⟩, ⟨7, 5, 9⟩]) (x := ⟨8, 1, 9⟩) s2 (by decide)) ?_
  rintro _ _ ⟨rfl, a3, c3, rfl⟩
  rw [e3, f3]
  refine ⟨chk_seq, ?_⟩
  refine sx ?_
  refine s_call rfl (dput_s (xs := [⟨7, 3, 5⟩, ⟨7, 5, 9⟩, ⟨8, 1, 9⟩]) (x := ⟨7, 4, 6⟩) s3 (by decide)) ?_
  rintro _ _ ⟨rfl, a4, c4, rfl⟩
  rw [e4, f4]
  refine ⟨chk_seq, ?_⟩
  refine sx ?_
  refine s_call rfl (dput_s (xs := [⟨7, 3, 5⟩, ⟨7, 5, 9⟩, ⟨8, 1, 9⟩]) (x := ⟨1, 3, 5⟩) s3 (by decide)) ?_
  rintro _ _ ⟨rfl, a5, c5, rfl⟩
  rw [e5, f5]
  refine ⟨chk_seq, ?_⟩
  refine sx ?_
  refine s_call rfl (dheld_s (xs := [⟨7, 3, 5⟩, ⟨7, 5, 9⟩, ⟨8, 1, 9⟩]) (by decide)) ?_
  rintro _ _ ⟨a6, c6, rfl, rfl⟩
  rw [h1]
  refine ⟨chk_seq, ?_⟩
  refine sx ?_
  refine s_bsl [(⟨5⟩ : U64), ⟨5⟩] rfl rfl fun b30 => ?_
  refine sx ?_
  refine s_entL (.hb d 63 [.slice a5 3 c5] :: ol 34 a5 c5 ([⟨7, 3, 5⟩, ⟨7, 5, 9⟩, ⟨8, 1, 9⟩] : List Lf) :: ol 32 (some ⟨b30, 0, none⟩) 2 [(⟨5⟩ : U64), ⟨5⟩] :: ol 3 a6 c6 ([7, 8] : List Int) :: H) (by exact ent) ?_
  refine s_call rfl (dfree_s (xs := [⟨7, 3, 5⟩, ⟨7, 5, 9⟩, ⟨8, 1, 9⟩]) (ss := [⟨5⟩, ⟨5⟩]) (by exact rsl) (by decide)) ?_
  rintro _ _ ⟨a7, c7, a8, c8, rfl, rfl⟩
  rw [h2, h3]
  refine ⟨chk_seq, ?_⟩
  refine sx ?_
  refine s_bsl ([7, 8] : List Int) rfl rfl fun b52 => ?_
  refine s_callV rfl (sameI_s (xs := [7, 8]) (ys := [7, 8]) (by exact rsl) (by exact rsl)) ?_
  refine sx ?_
  refine s_bsl ([7] : List Int) rfl rfl fun b57 => ?_
  refine s_callV rfl (sameI_s (xs := [7]) (ys := [7]) (by exact rsl) (by exact rsl)) ?_
  refine sx ?_
  refine s_entL (.hb d 63 [.slice a8 ([⟨7, 5, 9⟩, ⟨8, 1, 9⟩] : List Lf).length c8] :: H) (by exact ent) ?_
  refine s_callV rfl (dcount_s (xs := [⟨7, 5, 9⟩, ⟨8, 1, 9⟩])) ?_
  refine sx ?_
  exact s_ret1 rfl rfl ⟨rfl, rfl⟩
theorem names_s : FnV Try.prog w0 H 3 #[] (.bool true) := by
  refine fns_enter Try.func3 rfl rfl rfl ?_
  refine sx ?_
  refine s_callV rfl awake_s ?_
  refine sx ?_
  exact s_ret1 rfl rfl ⟨rfl, rfl⟩
end Go.Sx
