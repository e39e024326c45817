/- Part of a proof: one step of a script on a device; a script played. -/
import Derived.Test.YtjbjblhfccddkaaCTQ
import Derived.Test.YtjbjblhfccddkaaCKB
namespace Go.Sx
open Go Go.Proofs
set_option maxRecDepth 10000
variable {w0 : World} {H : List Ck}
instance : ElT Try.prog 53 VOp := ⟨trivial⟩
theorem fit_put {n : Nat} {b : UInt8} {t : Bs} : putL (rp n b) 0 (t.take n) = fit n b t := by
  unfold putL fit
  rw [List.take_zero, List.nil_append, List.drop_replicate, List.length_take]
  congr 2
  omega
abbrev DidR (c : Cd) (N : Nat) (o : VOp) (H : List Ck) : Value → List Ck → Prop := fun v K =>
  ∃ c' : Cd, c'.b = c.b ∧ c'.Ok (N + 1) ∧ c'.ad = c.ad.did o.do ∧ v = .int .i64 (c.ad.der o.do) ∧ K = c'.on 0 H
set_option maxHeartbeats 4000000 in
theorem did_s {c : Cd} {N : Nat} {o : VOp} (hc : c.Ok N) (hN : N ≤ 1099511627775) (ho : RVo w0 H o) : FnS Try.prog w0 (c.on 0 H) 21 #[.pointer (some ⟨c.b, 0, none⟩), .agg o.cells.toArray] (DidR c N o H) := by
  have hsz := hc.sz
  have hfs : o.fs.length ≤ 17592186044416 := Nat.le_trans ho.zf (by decide)
  refine fns_enter Try.func21 rfl rfl rfl ?_
  refine sx ?_
  refine s_boxA rfl fun k => ?_
  refine sx ?_
  refine s_if rfl (fun h3 => ?_) (fun h3 => ?_)
  · have h3 : o.k = 3 := h3
    have ht : RBy w0 (.hb k 53 o.cells :: c.on 0 H) o.ta o.tc o.t := Cd.rbyH ho.t |>.tl
    refine sx ?_
    refine s_drH [.hb k 53 o.cells] (.one true 0 (.one true 2 (.one true 3 (.one false 1 (.one false 4 (.one true 5 .nil)))))) mixed (by kernel_rfl) ?_ (he := by exact entq)
    refine sx ?_
    refine s_call rfl (FnS.ent (size_s (c := c) (lk := 0) (H := .hb k 53 o.cells :: H)) (by exact Ent.cons (by exact rmq) (Ent.cons (by exact rmq) (Ent.cons (by exact rmq) (Ent.cons (by exact rmq) Ent.refl))))) ?_
    rintro _ _ ⟨rfl, rfl⟩
    refine ⟨chk_held (by exact entq), ?_⟩
    refine sx ?_
    refine s_call rfl (filled_s (n := c.size) (b := o.by_) hsz.2) ?_
    rintro _ _ ⟨a, rfl, rfl⟩
    refine ⟨chk_held (by exact entq), ?_⟩
    refine sx ?_
    have hs : RSl w0 (ob (some a) c.size (rp c.size o.by_) :: c.on 0 (.hb k 53 o.cells :: H)) o.ta o.tc o.t := (Cd.rbyH ho.t.tl).tl.sl'
    refine s_copyP (p := 0) (xs := rp c.size o.by_) (ys := o.t) (a := some a) (c := c.size) rfl rfl sl_0.symm ?_ (hsrc := hs) (hA := by exact at_) (hp := Nat.zero_le _) (hfit := by simp)
    rw [fit_put]
    refine sx ?_
    have hw : RBy w0 (ob (some a) c.size (fit c.size o.by_ o.t) :: .hb k 53 o.cells :: H) (some a) c.size (fit c.size o.by_ o.t) := RBy.hd
    refine s_rw (t := 22) (v' := .slice (some a) (fit c.size o.by_ o.t).length c.size) rfl (by rw [fit_len]) ?_
    refine s_call rfl (FnS.ent (write_s hc ho.a (by omega) hw (by rw [fit_len]; omega)) (by exact Ent.cons (by exact rmq) (Ent.cons (by exact rmq) (Ent.cons (by exact rmq) (Ent.cons (by exact rmq) (Ent.cons (by exact rmq) Ent.refl)))))) ?_
    rintro _ _ ⟨c', q1, q2, q3, rfl, rfl⟩
    refine ⟨chk_seq, ?_⟩
    refine sx ?_
    refine s_ret1 rfl rfl ⟨c', q1, q2, ?_, ?_, rfl⟩ (Ent.cons (by exact rmq) (Ent.cons (by exact rmq) (Ent.cons (by exact rmq) (Ent.tl (Ent.tl Ent.refl)))))
    · rw [q3, Ad.did, if_pos (show o.do.k = 3 from h3)]; rfl
    · rw [Ad.der, if_pos (show o.do.k = 3 from h3), fit_len]; rfl
  refine sx ?_
  refine s_if rfl (fun h4 => ?_) (fun h4 => ?_)
  · have h4 : o.k = 4 := h4
    refine sx ?_
    refine s_call rfl (FnS.ent (barrier_s (H := .hb k 53 o.cells :: H) hc (by omega)) (by exact Ent.cons (by exact rmq) (Ent.cons (by exact rmq) (Ent.cons (by exact rmq) (Ent.cons (by exact rmq) Ent.refl))))) ?_
    rintro _ _ ⟨c', q1, q2, q3, rfl, rfl⟩
    refine ⟨chk_seq, ?_⟩
    refine sx ?_
    refine s_ret1 rfl rfl ⟨c', q1, q2.mono (Nat.le_succ N), ?_, ?_, rfl⟩ (Ent.cons (by exact rmq) (Ent.cons (by exact rmq) (Ent.cons (by exact rmq) (Ent.tl Ent.refl))))
    · rw [q3, Ad.did, if_neg (show ¬ o.do.k = 3 from h3), if_pos (show o.do.k = 4 from h4)]
    · rw [Ad.der, if_neg (show ¬ o.do.k = 3 from h3), if_pos (show o.do.k = 4 from h4)]
  refine sx ?_
  refine s_if rfl (fun h5 => ?_) (fun h5 => ?_)
  · have h5 : o.k = 5 := h5
    refine sx ?_
    refine s_call rfl (FnS.ent (arm_s (H := .hb k 53 o.cells :: H) (done := o.done) hc ho.a ho.b) (by exact Ent.cons (by exact rmq) (Ent.cons (by exact rmq) (Ent.cons (by exact rmq) (Ent.cons (by exact rmq) Ent.refl))))) ?_
    rintro _ _ ⟨c', q1, q2, q3, rfl, rfl⟩
    refine ⟨chk_seq, ?_⟩
    refine sx ?_
    refine s_ret1 rfl rfl ⟨c', q1, q2.mono (Nat.le_succ N), ?_, ?_, rfl⟩ (Ent.cons (by exact rmq) (Ent.cons (by exact rmq) (Ent.cons (by exact rmq) (Ent.tl Ent.refl))))
    · rw [q3, Ad.did, if_neg (show ¬ o.do.k = 3 from h3), if_neg (show ¬ o.do.k = 4 from h4), if_pos (show o.do.k = 5 from h5)]; rfl
    · rw [Ad.der, if_neg (show ¬ o.do.k = 3 from h3), if_neg (show ¬ o.do.k = 4 from h4), if_pos (show o.do.k = 5 from h5)]; rfl
  refine sx ?_
  refine s_if rfl (fun h7 => ?_) (fun h7 => ?_)
  · have h7 : o.k = 7 := h7
    refine sx ?_
    refine s_call rfl (FnS.ent (restart_s (H := .hb k 53 o.cells :: H) hc ho.f.tl hfs (by omega)) (by exact Ent.cons (by exact rmq) (Ent.cons (by exact rmq) (Ent.cons (by exact rmq) (Ent.cons (by exact rmq) Ent.refl))))) ?_
    rintro _ _ ⟨c', l, q1, q2, q3, q4, rfl, rfl⟩
    refine ⟨chk_seq, ?_⟩
    refine sx ?_
    refine s_ret1 rfl rfl ⟨c', q1, q2.mono (Nat.le_succ N), ?_, ?_, rfl⟩ (Ent.cons (by exact rmq) (Ent.cons (by exact rmq) (Ent.cons (by exact rmq) (Ent.tl Ent.refl))))
    · rw [q4, q3.eq, Ad.did, if_neg (show ¬ o.do.k = 3 from h3), if_neg (show ¬ o.do.k = 4 from h4), if_neg (show ¬ o.do.k = 5 from h5), if_pos (show o.do.k = 7 from h7)]; rfl
    · rw [Ad.der, if_neg (show ¬ o.do.k = 3 from h3), if_neg (show ¬ o.do.k = 4 from h4), if_neg (show ¬ o.do.k = 5 from h5), if_neg (show ¬ o.do.k = 8 by rw [show o.do.k = 7 from h7]; decide)]
  refine sx ?_
  refine s_if rfl (fun h8 => ?_) (fun h8 => ?_)
  · have h8 : o.k = 8 := h8
    refine sx ?_
    refine s_call rfl (FnS.ent (flip_s (H := .hb k 53 o.cells :: H) (x := o.by_) hc ho.a ho.b (by omega)) (by exact Ent.cons (by exact rmq) (Ent.cons (by exact rmq) (Ent.cons (by exact rmq) (Ent.cons (by exact rmq) Ent.refl))))) ?_
    rintro _ _ ⟨c', q1, q2, q3, rfl, rfl⟩
    refine ⟨chk_seq, ?_⟩
    refine sx ?_
    refine s_ret1 rfl rfl ⟨c', q1, q2.mono (Nat.le_succ N), ?_, ?_, rfl⟩ (Ent.cons (by exact rmq) (Ent.cons (by exact rmq) (Ent.cons (by exact rmq) (Ent.tl Ent.refl))))
    · rw [q3, Ad.did, if_neg (show ¬ o.do.k = 3 from h3), if_neg (show ¬ o.do.k = 4 from h4), if_neg (show ¬ o.do.k = 5 from h5), if_neg (show ¬ o.do.k = 7 from h7), if_pos (show o.do.k = 8 from h8)]; rfl
    · rw [Ad.der, if_neg (show ¬ o.do.k = 3 from h3), if_neg (show ¬ o.do.k = 4 from h4), if_neg (show ¬ o.do.k = 5 from h5), if_pos (show o.do.k = 8 from h8)]; rfl
  · refine sx ?_
    refine s_ret1 rfl rfl ⟨c, rfl, hc.mono (Nat.le_succ N), ?_, ?_, rfl⟩ (Ent.cons (by exact rmq) (Ent.cons (by exact rmq) (Ent.cons (by exact rmq) (Ent.tl Ent.refl))))
    · rw [Ad.did, if_neg (show ¬ o.do.k = 3 from h3), if_neg (show ¬ o.do.k = 4 from h4), if_neg (show ¬ o.do.k = 5 from h5), if_neg (show ¬ o.do.k = 7 from h7), if_neg (show ¬ o.do.k = 8 from h8)]
    · rw [Ad.der, if_neg (show ¬ o.do.k = 3 from h3), if_neg (show ¬ o.do.k = 4 from h4), if_neg (show ¬ o.do.k = 5 from h5), if_neg (show ¬ o.do.k = 8 from h8)]
theorem RVo.any {o : VOp} (h : RVo w0 [] o) : RVo w0 H o := ⟨h.t.ent Ent.nil, h.f.ent Ent.nil, h.a, h.b, h.zt, h.zf⟩
/-- A new device. -/
def Ad.new (size n : Nat) : Ad := ⟨size, n, fun _ => ⟨zeros size, false, []⟩, false, 0, 0, false⟩
theorem c0_ad {b m size n : Nat} : (c0 b m size n).ad = Ad.new size n := by
  simp only [Cd.ad, Ad.new]
  congr 1
theorem dids_snoc {A : Ad} {l : List VOp} {i : Nat} {o : VOp} (h : l[i]? = some o) : A.dids ((l.take (i + 1)).map VOp.do) = (A.dids ((l.take i).map VOp.do)).did o.do := by
  rw [snocT h, List.map_append, Ad.dids, Ad.dids, List.foldl_append]
  rfl
set_option maxHeartbeats 1000000 in
theorem played_s {size n : Nat} {a : Option Addr} {cc : Nat} {l : List VOp} (hs : szOk (size : Int)) (hn : 16 ≤ n ∧ n ≤ 65536) (hl : RSl w0 H a cc l) (hg : ∀ o ∈ l, RVo w0 [] o) (hz : l.length ≤ 195313) :
    FnS Try.prog w0 H 9 #[.int .i64 size, .int .i64 n, .slice a l.length cc] (fun v K => ∃ c : Cd, c.Ok l.length ∧ c.ad = (Ad.new size n).dids (l.map VOp.do) ∧ v = .pointer (some ⟨c.b, 0, none⟩) ∧ K = c.on 0 H) := by
  refine fns_enter Try.func9 rfl rfl rfl ?_
  have hs0 : 512 ≤ size ∧ size ≤ 4096 := by unfold szOk at hs; omega
  refine sx ?_
  refine s_call rfl (new_s (size := (size : Int)) (n := (n : Int)) ⟨by omega, by omega⟩ ⟨by omega, by omega⟩) ?_
  rintro _ _ (⟨h, rfl, rfl⟩ | ⟨_, _, _, b, m, rfl, rfl⟩)
  · exact absurd ⟨hs, by omega, by omega⟩ h
  refine ⟨chk_seq, ?_⟩
  simp only [Int.toNat_natCast]
  refine sx ?_
  refine s_loop (ι := Nat × Cd) (fun i => [(2, .slice a l.length cc), (7, .pointer (some ⟨b, 0, none⟩)), (9, .int .i64 i.1)])
    (fun i => i.2.on 0 H) (fun i => i.1 ≤ l.length ∧ i.2.b = b ∧ i.2.Ok i.1 ∧ i.2.ad = (Ad.new size n).dids ((l.take i.1).map VOp.do)) (fun i => l.length - i.1) (0, c0 b m size n) ⟨Nat.zero_le _, rfl, c0_ok hs hn.2, c0_ad⟩ ?_
  rintro ⟨i, c⟩ ⟨hi, hb, hok, had⟩
  have hi : i ≤ l.length := hi
  have hb : c.b = b := hb
  have hok : c.Ok i := hok
  have had : c.ad = (Ad.new size n).dids ((l.take i).map VOp.do) := had
  subst hb
  show SC _ _ _ _ _ _ _ (c.on 0 H)
  refine sx ?_
  refine s_lif rfl (fun t1 => ?_) (fun t1 => ?_)
  · obtain ⟨o, hoi⟩ : ∃ o, l[i]? = some o := ⟨_, List.getElem?_eq_getElem (by omega)⟩
    refine sx ?_
    refine s_call rfl (did_s hok (by omega) (hg o (List.mem_of_getElem? hoi)).any) ?_
    rintro _ _ ⟨c', q1, q2, q3, rfl, rfl⟩
    refine ⟨chk_seq, ?_⟩
    refine sx ?_
    rw [← q1]
    refine s_again (i + 1, c') ⟨by show i + 1 ≤ _; omega, rfl, q2, ?_⟩ (by show l.length - (i + 1) < l.length - i; omega)
    rw [q3, had, dids_snoc hoi]
  · obtain rfl : i = l.length := by omega
    refine sx ?_
    rw [List.take_of_length_le (Nat.le_refl _)] at had
    exact s_ret1 rfl rfl ⟨c, hok, had, rfl, rfl⟩
end Go.Sx
