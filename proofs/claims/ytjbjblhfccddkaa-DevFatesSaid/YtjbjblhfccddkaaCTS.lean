/- Part of a proof: the law's example; the law DevNames. -/
import Derived.Test.YtjbjblhfccddkaaCTR
namespace Go.Sx
open Go Go.Proofs
set_option maxRecDepth 10000
variable {w0 : World} {H : List Ck}
theorem Cd.up {c : Cd} {lk : Int} {X : Ck} : Ent (X :: c.on lk H) (c.on lk (X :: H)) :=
  Ent.cons (by exact rmq) (Ent.cons (by exact rmq) (Ent.cons (by exact rmq) (Ent.cons (by exact rmq) Ent.refl)))
theorem new_fst {size n : Nat} : Fst1 (Ad.new size n) size n (fun _ => 0) := ⟨rfl, rfl, rfl, rfl, fun _ => rfl, fun _ => rfl, fun _ => rfl⟩
theorem new_szOk {k : Int} : szOk (szs k : Int) := (szs_ok k).1
set_option maxHeartbeats 4000000 in
theorem awake_s : FnS Try.prog w0 H 7 #[] (fun v K => v = .bool true ∧ K = H) := by
  refine fns_enter (args := []) Try.func7 rfl rfl rfl ?_
  refine sx ?_
  refine s_call rfl (new_s (size := 512) (n := 16) ⟨by decide, by decide⟩ ⟨by decide, by decide⟩) ?_
  rintro _ _ (⟨h, rfl, rfl⟩ | ⟨_, _, _, b, m, rfl, rfl⟩)
  · exact absurd ⟨.inl rfl, by decide, by decide⟩ h
  refine ⟨chk_seq, ?_⟩
  have hok0 : (c0 b m 512 16).Ok 0 := c0_ok (.inl rfl) (by decide)
  have had0 : (c0 b m 512 16).ad = Ad.new 512 16 := c0_ad
  show SL _ _ _ _ _ _ _ _ _ ((c0 b m 512 16).on 0 H)
  obtain ⟨c, hc⟩ : ∃ c, c = c0 b m 512 16 := ⟨_, rfl⟩
  have hcb : c.b = b := by rw [hc]
  rw [← hc] at hok0 had0 ⊢
  rw [← hcb]
  clear hc hcb
  refine sx ?_
  refine s_call rfl (new_s (size := 513) (n := 16) ⟨by decide, by decide⟩ ⟨by decide, by decide⟩) ?_
  rintro _ _ (⟨_, rfl, rfl⟩ | ⟨h, _⟩)
  rotate_left
  · exact absurd h (by unfold szOk; decide)
  refine ⟨chk_seq, ?_⟩
  refine sx ?_
  have h0 := new_fst (size := 512) (n := 16)
  rw [← had0] at h0
  have e16 : c.size = 512 := h0.sz
  refine s_call rfl (filled_s (n := 512) (b := 97) (by decide)) ?_
  rintro _ _ ⟨a1, rfl, rfl⟩
  refine ⟨chk_seq, ?_⟩
  refine s_rw (t := 33) (v' := .slice (some a1) (rp 512 97).length 512) rfl (by simp) ?_
  refine s_call rfl (FnS.ent (write_s hok0 (n := 3) ⟨by decide, by decide⟩ (by decide) (RBy.hd (H := H)) (by simp)) Cd.up) ?_
  rintro _ _ ⟨c1, q1, q2, q3, rfl, rfl⟩
  refine ⟨chk_seq, ?_⟩
  obtain ⟨h1, e1⟩ := h0.write (k := 3) (by decide) 97
  rw [e1, ← q1]
  rw [← q3] at h1
  refine sx ?_
  refine s_call rfl (barrier_s q2 (by decide)) ?_
  rintro _ _ ⟨c2, r1, r2, r3, rfl, rfl⟩
  refine ⟨chk_seq, ?_⟩
  obtain ⟨h2, e2⟩ := h1.barrier
  rw [e2, ← r1]
  rw [← r3] at h2
  refine sx ?_
  refine s_call rfl (filled_s (n := 512) (b := 98) (by decide)) ?_
  rintro _ _ ⟨a2, rfl, rfl⟩
  refine ⟨chk_seq, ?_⟩
  refine s_rw (t := 38) (v' := .slice (some a2) (rp 512 98).length 512) rfl (by simp) ?_
  refine s_call rfl (FnS.ent (write_s r2 (n := 3) ⟨by decide, by decide⟩ (by decide) RBy.hd (by simp)) Cd.up) ?_
  rintro _ _ ⟨c3, u1, u2, u3, rfl, rfl⟩
  refine ⟨chk_seq, ?_⟩
  obtain ⟨h3, e3⟩ := h2.write (k := 3) (by decide) 98
  rw [e3, ← u1]
  rw [← u3] at h3
  refine sx ?_
  refine s_call rfl (filled_s (n := 512) (b := 99) (by decide)) ?_
  rintro _ _ ⟨a3, rfl, rfl⟩
  refine ⟨chk_seq, ?_⟩
  refine s_rw (t := 41) (v' := .slice (some a3) (rp 512 99).length 512) rfl (by simp) ?_
  refine s_call rfl (FnS.ent (write_s u2 (n := 3) ⟨by decide, by decide⟩ (by decide) RBy.hd (by simp)) Cd.up) ?_
  rintro _ _ ⟨c4, v1, v2, v3, rfl, rfl⟩
  refine ⟨chk_seq, ?_⟩
  obtain ⟨h4, e4⟩ := h3.write (k := 3) (by decide) 99
  rw [e4, ← v1]
  rw [← v3] at h4
  refine sx ?_
  refine s_call rfl (Pending_s v2 (by decide)) ?_
  rintro _ _ ⟨ap, cp, l, hP, _, rfl, rfl⟩
  refine ⟨chk_seq, ?_⟩
  have hP3 : c4.ad.Pend [3] := ⟨List.pairwise_singleton _ _, fun m => by
    rw [h4.at_ m]
    by_cases hm : m = 3
    · subst hm; simp [upd]
    · simp [upd, hm]⟩
  obtain rfl : l = [3] := hP.uniq hP3
  have hwt : [(3 : Int)].map c4.ad.wto = [⟨3, 2⟩] := by
    simp only [List.map_cons, List.map_nil, Ad.wto, h4.at_ 3]
    rfl
  rw [hwt]
  have hsh : c4.ad.rerr 3 = 0 ∧ (c4.ad.at_ 3).shows = rp 512 99 := by
    have e0 : c4.ad.err 3 = 0 := Ad.err_ok h4.off (by rw [h4.nn]; decide)
    refine ⟨?_, ?_⟩
    · unfold Ad.rerr
      rw [if_neg (by rw [e0]; simp), h4.at_ 3]
      simp [upd]
    · rw [h4.at_ 3]
      simp [upd, Ab.shows]
  refine sx ?_
  refine s_call rfl (read_s v2 (n := 3) ⟨by decide, by decide⟩ (by decide)) ?_
  rintro _ _ ⟨c5, x1, x2, x3, ⟨x4, _⟩ | ⟨_, a5, rfl, rfl⟩⟩
  · exact absurd hsh.1 x4
  refine ⟨chk_seq, ?_⟩
  rw [hsh.2, ← x1]
  rw [← x3] at h4 hP3
  refine sx ?_
  refine s_bsl ([1] : List Int) rfl rfl fun b1 => ?_
  refine sx ?_
  refine s_call rfl (FnS.ent (restart_s x2 (fs := [1]) RSl.hd (by decide) (by decide)) Cd.up) ?_
  rintro _ _ ⟨c6, l6, y1, y2, y3, y4, rfl, rfl⟩
  refine ⟨chk_seq, ?_⟩
  obtain rfl : l6 = [3] := y3.uniq hP3
  have h6 := h4.restart hP3 [1]
  rw [← y4] at h6
  have hsh6 := h6.shown (m := 3) (by decide) (f := 1) rfl
  have z1 : c6.ad.rerr 3 = 0 := hsh6.1
  have z2 : (c6.ad.at_ 3).shows = rp 512 98 := hsh6.2 (by decide)
  rw [← y1]
  refine sx ?_
  refine s_call rfl (read_s y2 (n := 3) ⟨by decide, by decide⟩ (by decide)) ?_
  rintro _ _ ⟨c7, _, _, _, ⟨x4, _⟩ | ⟨_, a7, rfl, rfl⟩⟩
  · exact absurd z1 x4
  refine ⟨chk_seq, ?_⟩
  rw [z2]
  refine sx ?_
  have f5 : RBy w0 (c7.on 0 (ob a7 (rp 512 98).length (rp 512 98) :: ol 3 (some ⟨b1, 0, none⟩) 1 ([1] : List Int) :: ob a5 (rp 512 99).length (rp 512 99) :: ol 43 ap cp [(⟨3, 2⟩ : Wt)] :: ob (some a3) 512 (rp 512 99) :: ob (some a2) 512 (rp 512 98) :: ob (some a1) 512 (rp 512 97) :: H)) a5 (rp 512 99).length (rp 512 99) := Cd.rbyH RBy.hd.tl.tl
  have f7 : RBy w0 (c7.on 0 (ob a7 (rp 512 98).length (rp 512 98) :: ol 3 (some ⟨b1, 0, none⟩) 1 ([1] : List Int) :: ob a5 (rp 512 99).length (rp 512 99) :: ol 43 ap cp [(⟨3, 2⟩ : Wt)] :: ob (some a3) 512 (rp 512 99) :: ob (some a2) 512 (rp 512 98) :: ob (some a1) 512 (rp 512 97) :: H)) a7 (rp 512 98).length (rp 512 98) := Cd.rbyH RBy.hd
  have fp : RSl w0 (c7.on 0 (ob a7 (rp 512 98).length (rp 512 98) :: ol 3 (some ⟨b1, 0, none⟩) 1 ([1] : List Int) :: ob a5 (rp 512 99).length (rp 512 99) :: ol 43 ap cp [(⟨3, 2⟩ : Wt)] :: ob (some a3) 512 (rp 512 99) :: ob (some a2) 512 (rp 512 98) :: ob (some a1) 512 (rp 512 97) :: H)) ap cp [(⟨3, 2⟩ : Wt)] := RSl.hd.tl.tl.tl.tl.tl.tl
  have eG : Ent (c7.on 0 (ob a7 (rp 512 98).length (rp 512 98) :: ol 3 (some ⟨b1, 0, none⟩) 1 ([1] : List Int) :: ob a5 (rp 512 99).length (rp 512 99) :: ol 43 ap cp [(⟨3, 2⟩ : Wt)] :: ob (some a3) 512 (rp 512 99) :: ob (some a2) 512 (rp 512 98) :: ob (some a1) 512 (rp 512 97) :: H)) H := Ent.tl (Ent.tl (Ent.tl (Ent.tl (Ent.tl (Ent.tl (Ent.tl (Ent.tl (Ent.tl (Ent.tl Ent.refl)))))))))
  generalize (c7.on 0 (ob a7 (rp 512 98).length (rp 512 98) :: ol 3 (some ⟨b1, 0, none⟩) 1 ([1] : List Int) :: ob a5 (rp 512 99).length (rp 512 99) :: ol 43 ap cp [(⟨3, 2⟩ : Wt)] :: ob (some a3) 512 (rp 512 99) :: ob (some a2) 512 (rp 512 98) :: ob (some a1) 512 (rp 512 97) :: H)) = G at f5 f7 fp eG ⊢
  obtain ⟨pw, hpw⟩ : ∃ pw, pw = [(⟨3, 2⟩ : Wt)] := ⟨_, rfl⟩
  have hpl : pw.length = 1 := by rw [hpw]; rfl
  have hp0 : pw[0]? = some ⟨3, 2⟩ := by rw [hpw]; rfl
  rw [← hpw] at fp ⊢
  refine s_sub (l' := [(5, .int .i64 0), (6, .int .i64 0), (7, .int .i64 0), (8, .int .i64 0), (9, .slice ap pw.length cp), (10, .slice a5 (rp 512 99).length (rp 512 99).length), (11, .int .i64 0), (12, .slice a7 (rp 512 98).length (rp 512 98).length), (13, .int .i64 0)]) ?_ (by repeat (first | exact trivial | refine And.intro (by first | exact rfl | exact congrArg some (ci (by omega))) ?_))
  refine s_dr (.one true 0 (.one true 1 (.one true 2 (.one true 3 (.one true 4 (.one true 5 (.one true 6 (.one true 7 (.one true 8 (.one true 9 (.one true 10 (.one true 11 (.one true 12 (.one true 13 (.one true 14 (.one true 15 (.one true 16 (.one true 17 (.one true 18 (.one true 19 (.one true 20 (.one true 21 (.one true 22 (.one true 23 (.one true 24 (.one true 25 (.one true 26 (.one true 27 (.one true 28 (.one true 29 (.one true 30 (.one true 31 (.one true 32 (.one true 33 (.one true 34 (.one true 35 (.one true 36 (.one false 37 (.one false 38 (.one true 39 (.one true 40 (.one true 41 (.one true 42 (.one true 43 (.one false 44 (.one false 45 (.one true 46 (.one true 47 (.one true 48 .nil))))))))))))))))))))))))))))))))))))))))))))))))) mixed (by kernel_rfl) ?_
  refine sx ?_
  refine s_rw (t := 85) (v' := .bool true) rfl (by rw [hpl]; rfl) ?_
  refine sx ?_
  refine (s_gH (s_yH rfl rfl rfl (y_eqA (⟨3, 2⟩ : Wt) (⟨3, 2⟩ : Wt) rfl rfl rfl rfl) ?_))
  refine s_rw (t := 90) (v' := .bool true) rfl (by simp) ?_
  refine sx ?_
  refine s_rw (t := 91) (v' := .bool true) rfl rfl ?_
  refine s_call rfl (filled_s (n := 512) (b := 99) (by decide)) ?_
  rintro _ _ ⟨a8, rfl, rfl⟩
  refine ⟨chk_held (by exact Ent.tl Ent.refl), ?_⟩
  refine s_rw (t := 95) (v' := .slice (some a8) (rp 512 99).length 512) rfl (by simp) ?_
  refine s_yA rfl rfl (y_st rfl RBy.hd) ?_ (chk_held (by exact Ent.tl Ent.refl))
  refine sx ?_
  refine s_call rfl (filled_s (n := 512) (b := 98) (by decide)) ?_
  rintro _ _ ⟨a9, rfl, rfl⟩
  refine ⟨chk_held (by exact Ent.tl (Ent.tl Ent.refl)), ?_⟩
  refine s_rw (t := 102) (v' := .slice (some a9) (rp 512 98).length 512) rfl (by simp) ?_
  refine s_yA rfl rfl (y_st rfl RBy.hd) ?_ (chk_held (by exact Ent.tl (Ent.tl Ent.refl)))
  refine sx ?_
  exact s_ret1 rfl rfl ⟨rfl, rfl⟩ (Ent.tl (Ent.tl eG))
theorem vnames_s : FnS Try.prog w0 H 3 #[] (fun v K => v = .bool true ∧ K = H) := by
  refine fns_enter (args := []) Try.func3 rfl rfl rfl ?_
  refine sx ?_
  refine s_call rfl awake_s ?_
  rintro _ _ ⟨rfl, rfl⟩
  refine ⟨chk_seq, ?_⟩
  refine sx ?_
  exact s_ret1 rfl rfl ⟨rfl, rfl⟩
end Go.Sx
