/- Part of a proof: the book's end, the lot's end where it holds no list; two keys asked. -/
import Derived.Test.YtpnhoafmlhlfgaaCPF
namespace Go.Sx
open Go Go.Proofs
set_option maxRecDepth 10000
variable {w0 : World} {H : List Ck}
theorem bends_s {K lc wc : Nat} {sf : List Value} {la wa : Option Addr} {ls : List SB} {ws : List St} (hl : ls.length ≤ 1099511627776) (hsm : ∀ s ∈ ls, s.xs.length ≤ 140737488355000) (hsame : ls.map SB.xs = ws.map St.xs) :
    FnS Try.prog w0 (.hb K 50 (.slice la ls.length lc :: .slice wa ws.length wc :: sf) :: ol 24 la lc ls :: fam 5 ls :: ol 9 wa wc ws :: H) 24 #[.pointer (some ⟨K, 0, none⟩)]
      (fun v H' => v = .bool true ∧ H' = .hb K 50 (.slice la ls.length lc :: .slice wa ws.length wc :: sf) :: H) := by
  have hwl : ws.length = ls.length := by
    have := congrArg List.length hsame
    simpa using this.symm
  refine fns_enter Try.func24 rfl rfl rfl ?_
  refine sx ?_
  refine s_loop (fun i : Nat => [(0, .pointer (some ⟨K, 0, none⟩)), (3, .int .i64 i)]) (fun i => .hb K 50 (.slice la ls.length lc :: .slice wa ws.length wc :: sf) :: ol 24 la lc ls :: fam 5 ls :: ol 9 wa wc ws :: H)
    (fun i => i ≤ ls.length) (fun i => ls.length - i) 0 (Nat.zero_le _) ?_
  intro i hi
  refine sx ?_
  refine s_if rfl (fun t1 => ?_) (fun t1 => ?_)
  · obtain ⟨s, hs⟩ := get_lt ls i (by omega)
    obtain ⟨t, ht⟩ := get_lt ws i (by omega)
    have hst : s.xs = t.xs := by
      have h1 := congrArg (fun l => l[i]?) hsame
      simpa [hs, ht] using h1
    have r1 : RBy w0 (.hb K 50 (.slice la ls.length lc :: .slice wa ws.length wc :: sf) :: ol 24 la lc ls :: fam 5 ls :: ol 9 wa wc ws :: H) s.a s.c s.xs := (fam_by (List.mem_of_getElem? hs)).tl.tl
    have r2 : RSl w0 (.hb K 50 (.slice la ls.length lc :: .slice wa ws.length wc :: sf) :: ol 24 la lc ls :: fam 5 ls :: ol 9 wa wc ws :: H) wa wc ws := RSl.hd.tl.tl.tl
    have r3 : RSl w0 (.hb K 50 (.slice la ls.length lc :: .slice wa ws.length wc :: sf) :: ol 24 la lc ls :: fam 5 ls :: ol 9 wa wc ws :: H) la lc ls := RSl.hd.tl
    refine sx ?_; refine s_dr (.one true 0 (.one true 1 (.one true 2 (.one true 3 (.one true 4 (.one true 5 (.one true 6 (.one true 7 (.one true 8 (.one true 9 (.one true 10 (.one true 11 (.one true 12 (.one true 13 (.one true 14 (.one true 15 .nil)))))))))))))))) mixed (by kernel_rfl) ?_; refine sx ?_
    refine sx ?_
    refine s_cF rfl (by simp [hst]) ?_
    refine sx ?_
    exact s_again (i + 1) (by omega) (by omega)
  refine sx ?_
  refine s_call rfl (round_s (by' := 1) ⟨by decide, by decide⟩ hl hsm) ?_
  rintro _ _ ⟨rfl, l1, hl1, rfl⟩
  refine ⟨chk_seq, ?_⟩
  have e1 : l1.length = ls.length := (flat_hd hl1).1
  have hs1 : ∀ s ∈ l1, s.xs.length ≤ 140737488355000 := fun s h => by
    have h1 : hd4 s ∈ ls.map hd4 := hl1 ▸ List.mem_map_of_mem h
    obtain ⟨t, h2, h3⟩ := List.mem_map.1 h1
    have h4 := hsm t h2
    have h5 : t.xs.length = s.xs.length := congrArg (fun x => x.2.2) h3
    omega
  have hr := round_s (w0 := w0) (H := ol 9 wa wc ws :: H) (K := K) (by' := 200) (lc := lc) (sf := sf) (v4 := .slice wa ws.length wc) (la := la) (ls := l1) ⟨by decide, by decide⟩ (by omega) hs1
  rw [e1] at hr
  refine sx ?_
  refine s_call rfl hr ?_
  rintro _ _ ⟨rfl, l2, hl2, rfl⟩
  refine ⟨chk_seq, ?_⟩
  refine sx ?_
  refine s_ret1 rfl rfl ⟨rfl, rfl⟩ ?_
  exact Ent.head (Ent.tl (Ent.tl (Ent.tl Ent.refl)))
/-- A book as it must be. -/
structure Ob.Ok (B : Ob) (n : Nat) : Prop where
  same : B.ls.map SB.xs = B.ws.map St.xs
  len : B.ls.length ≤ n
  small : ∀ s ∈ B.ls, s.xs.length ≤ 140737488355000
theorem Ob.Ok.wlen {B : Ob} {n : Nat} (h : B.Ok n) : B.ws.length = B.ls.length := by
  have := congrArg List.length h.same
  simpa using this.symm
abbrev HoldR (B : Ob) (n : Nat) (s : SB) (H : List Ck) : Value → List Ck → Prop := fun _ H' => ∃ B' : Ob, H' = B'.ck :: H ∧ B'.k = B.k ∧ B'.sf = B.sf ∧ B'.Ok n ∧ (∀ t ∈ B.ls, t ∈ B'.ls) ∧ s ∈ B'.ls
theorem holdB_s {B : Ob} {n : Nat} {a a2 : Option Addr} {c c2 : Nat} {xs : Bs} (hB : B.Ok n) (hn : n ≤ 1099511627000) (hx : xs.length ≤ 140737488355000) (hy : RBy w0 H a2 c2 xs) :
    FnS Try.prog w0 (ob a c xs :: B.ck :: H) 39 #[.pointer (some ⟨B.k, 0, none⟩), .slice a xs.length c, .slice a2 xs.length c2] (HoldR B (n + 1) ⟨a, c, xs⟩ H) := by
  have hl := hB.len
  have hw := hB.wlen
  refine (hold_s ⟨by omega, by omega⟩ hy).mono ?_
  rintro v H' ⟨la, lc, wa, wc, rfl⟩
  refine ⟨_, rfl, rfl, rfl, ⟨?_, ?_, ?_⟩, fun t h => List.mem_append_left _ h, List.mem_append_right _ (List.mem_singleton.2 rfl)⟩
  · simp only [List.map_append, hB.same, List.map_cons, List.map_nil]
  · simp only [List.length_append, List.length_cons, List.length_nil]; omega
  · intro s hs
    simp only [List.mem_append, List.mem_singleton] at hs
    rcases hs with hs | rfl
    · exact hB.small s hs
    · exact hx
end Go.Sx
