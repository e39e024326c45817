/- Messages are taken out of a node. -/
import Derived.Test.YtkcabddbeclokaaGreatCVHj
import Derived.Test.YtkcabddbeclokaaGreatCKB
namespace Go.Sx
open Go Go.Proofs
set_option maxRecDepth 10000
variable {w0 : World} {H : List Ck}
theorem ncopied_s {m : Mg} (hm : RMg w0 H m) (h1 : m.lo.length ≤ 140737488355328) (h2 : m.hi.length ≤ 140737488355328) (h3 : m.v.length ≤ 140737488355328) : FnS Tryz.prog w0 H 41 #[.agg m.cells.toArray] (fun v H' => ∃ m' : Mg, v = .agg m'.cells.toArray ∧ m'.d = m.d ∧ H' = oM m' ++ H) := by
  refine fns_enter Tryz.func41 rfl rfl rfl ?_
  have hlo := hm.lo
  have hhi := hm.hi
  have hv := hm.v
  refine sx ?_
  refine s_boxA rfl fun b1 => ?_
  refine sx ?_
  refine s_alloc fun b2 => ?_
  refine sx ?_
  refine sx ?_; refine s_drH (.hb b1 56 m.cells :: H) (.one true 0 (.one true 1 (.one true 2 (.one true 3 (.one true 4 (.one true 5 (.one true 7 (.one true 8 (.one true 10 (.one true 11 (.one false 6 (.one false 9 (.one false 12 (.one true 13 (.one false 14 .nil))))))))))))))) mixed (by kernel_rfl) ?_; refine sx ?_
  refine s_call rfl (bclone_s (xs := m.lo) (by exact rby) h1) ?_
  rintro _ _ ⟨la, lc, rfl, rfl⟩
  refine ⟨chk_held (by exact ent), ?_⟩
  refine sx ?_
  refine s_call rfl (bclone_s (xs := m.hi) (by exact rby) h2) ?_
  rintro _ _ ⟨ha, hc, rfl, rfl⟩
  refine ⟨chk_held (by exact ent), ?_⟩
  refine sx ?_
  refine s_call rfl (bclone_s (xs := m.v) (by exact rby) h3) ?_
  rintro _ _ ⟨va, vc, rfl, rfl⟩
  refine ⟨chk_held (by exact ent), ?_⟩
  refine sx ?_
  exact s_retc rfl rfl (by exact at_) rfl ⟨⟨m.st, m.kd, la, lc, m.lo, ha, hc, m.hi, va, vc, m.v⟩, rfl, rfl, rfl⟩ (by exact ent)
theorem keysB_len (ps : List Bs) : ps.length ≤ keysB ps := by
  induction ps with
  | nil => exact Nat.zero_le _
  | cons x r ih => simp only [keysB, List.map_cons, List.sum_cons, List.length_cons] at *; omega
/-- Messages for a child, and the others. -/
def forM (ks : List Bs) (i : Int) (l : List MD) : List MD := l.filter fun m => decide (((chl ks m.lo : Nat) : Int) = i)
def othM (ks : List Bs) (i : Int) (l : List MD) : List MD := l.filter fun m => !decide (((chl ks m.lo : Nat) : Int) = i)
structure TkJ where
  i : Nat
  ma : Option Addr
  mc : Nat
  ms : List Mg
  la : Option Addr
  lc : Nat
  ls : List Mg
set_option maxHeartbeats 2000000 in
theorem ntake_s {n : Nd} {i : Int} (hn : RNd w0 H n) (h1 : n.k.ps.length ≤ 4294967296) (h2 : keysB n.k.keys ≤ 4294967296) (h3 : sumM n.md ≤ 549755813888) : FnS Tryz.prog w0 H 15 #[.agg n.cells.toArray, .int .i64 i] (fun v H' => ∃ (q : Nd) (la : Option Addr) (lc : Nat) (ls : List Mg) (e : Int), v = .tuple #[.agg q.cells.toArray, .slice la ls.length lc, .int .i64 e] ∧ H' = ol 56 la lc ls :: stars oM ls :: oN q H ∧ (if i < 0 ∨ (n.k.ps.length : Int) ≤ i then e = 1 ∧ q.k.d = ([], []) ∧ q.md = [] ∧ ls = [] else e = 0 ∧ q.k.d = n.k.d ∧ q.md = othM n.k.keys i n.md ∧ ls.map Mg.d = forM n.k.keys i n.md)) := by
  refine fns_enter Tryz.func15 rfl rfl rfl ?_
  have hkl : n.k.ks.length ≤ 4294967296 := by
    have := keysB_len n.k.keys
    rw [show n.k.keys.length = n.k.ks.length from List.length_map _] at this
    omega
  have hk := hn.k
  have hps := hk.ps
  have hks := hk.ks
  have hms := hn.ms.sl
  refine sx ?_
  refine s_boxA rfl fun b2 => ?_
  refine sx ?_
  refine s_alloc fun b4 => ?_
  refine sx ?_
  have hlif : i < 0 ∨ (n.k.ps.length : Int) ≤ i → ∀ {H : List Ck}, ∃ (q : Nd) (la : Option Addr) (lc : Nat) (ls : List Mg) (e : Int), Value.tuple #[.agg nd0.cells.toArray, .slice none 0 0, .int .i64 1] = .tuple #[.agg q.cells.toArray, .slice la ls.length lc, .int .i64 e] ∧ ol 56 none 0 ([] : List Mg) :: stars oM ([] : List Mg) :: oN nd0 H = ol 56 la lc ls :: stars oM ls :: oN q H ∧ (if i < 0 ∨ (n.k.ps.length : Int) ≤ i then e = 1 ∧ q.k.d = ([], []) ∧ q.md = [] ∧ ls = [] else e = 0 ∧ q.k.d = n.k.d ∧ q.md = othM n.k.keys i n.md ∧ ls.map Mg.d = forM n.k.keys i n.md) := fun h {H} => ⟨nd0, none, 0, [], 1, rfl, rfl, by rw [if_pos h]; exact ⟨rfl, rfl, rfl, rfl⟩⟩
  refine s_lif rfl (fun t1 => ?_) (fun t1 => ?_)
  · refine sx ?_
    exact s_retcvv rfl rfl rfl rfl (by exact at_) rfl (hlif (.inl t1)) ((Ent.tl (Ent.tl Ent.refl)).trans (hnilN.trans nilM))
  refine sx ?_
  refine s_rw (t := 19) (v' := .pointer (some ((⟨b2, 0, none⟩ : Addr).add 0))) rfl rfl ?_
  refine sx ?_
  refine s_if rfl (fun t2 => ?_) (fun t2 => ?_)
  · refine sx ?_
    exact s_retcvv rfl rfl rfl rfl (by exact at_) rfl (hlif (.inr t2)) ((Ent.tl (Ent.tl Ent.refl)).trans (hnilN.trans nilM))
  refine sx ?_
  refine s_rw (t := 26) (v' := .pointer (some ((⟨b2, 0, none⟩ : Addr).add 0))) rfl rfl ?_
  refine sx ?_
  refine s_entL (ol 3 none 0 ([] : List Int) :: .hb b4 28 [.slice none 0 0, .slice none 0 0, .slice none 0 0] :: .hb b2 28 n.cells :: H) Ent.nilS ?_
  refine s_app (xs := ([] : List Int)) (ys := n.k.ps) ?_ (hby := by simp only [List.length_nil]; omega)
  intro pa pc
  rw [List.nil_append]
  refine sx ?_
  refine s_rw (t := 30) (v' := .agg [Value.slice pa n.k.ps.length pc, .slice none ([] : List SB).length 0, .slice none 0 0].toArray) rfl rfl ?_
  refine s_alloc fun b7 => ?_
  refine sx ?_
  refine s_rw (t := 32) (v' := .pointer (some ((⟨b2, 0, none⟩ : Addr).add 1))) rfl rfl ?_
  refine sx ?_
  refine s_loop (fun q : Nat × Option Addr × Nat × List SB => [(1, .int .i64 i), (2, .pointer (some ⟨b2, 0, none⟩)), (4, .pointer (some ⟨b4, 0, none⟩)), (7, .pointer (some ⟨b7, 0, none⟩)), (33, .slice n.k.ka n.k.ks.length n.k.kc), (34, .int .i64 n.k.ks.length), (35, .int .i64 q.1)]) (fun q => .hb b7 28 [.slice pa n.k.ps.length pc, .slice q.2.1 q.2.2.2.length q.2.2.1, .slice none 0 0] :: ol 3 pa pc n.k.ps :: ol 44 q.2.1 q.2.2.1 q.2.2.2 :: fam 5 q.2.2.2 :: .hb b4 28 [.slice none 0 0, .slice none 0 0, .slice none 0 0] :: .hb b2 28 n.cells :: H) (fun q => q.1 ≤ n.k.ks.length ∧ q.2.2.2.map SB.xs = n.k.keys.take q.1) (fun q => n.k.ks.length - q.1) (0, none, 0, []) ⟨Nat.zero_le _, rfl⟩ ?_ (he := Ent.head (Ent.head (Ent.nilS.trans (Ent.head fam_nil))))
  rintro ⟨j, ka, kc, qs⟩ ⟨hj, hq⟩
  simp only at hj hq ⊢
  have hql : qs.length = j := by have := congrArg List.length hq; simp at this; omega
  refine sx ?_
  refine s_if rfl (fun t3 => ?_) (fun t3 => ?_)
  · obtain ⟨p, hp⟩ := get_lt n.k.ks j (by omega)
    have hpb := hk.el p (List.mem_of_getElem? hp)
    have hkp := get_map (f := SB.xs) hp
    have h4 : keysB (n.k.keys.take (j + 1)) = keysB (n.k.keys.take j) + 2 + p.xs.length := by have := keysB_get hkp; show keysB ((n.k.ks.map SB.xs).take (j + 1)) = keysB ((n.k.ks.map SB.xs).take j) + 2 + p.xs.length; omega
    have h5 := keysB_take n.k.keys (j + 1)
    refine sx ?_
    refine sx ?_
    refine s_drU (.hb b7 28 [.slice pa n.k.ps.length pc, .slice ka qs.length kc, .slice none 0 0] :: .hb b2 28 n.cells :: H) (.one true 0 (.one true 1 (.one true 2 (.one true 3 (.one false 4 (.one false 5 (.one false 6 (.one true 7 (.one true 8 .nil))))))))) (.one false 9 .nil) [9] #[true, true, true, true, true, true, true, true, true, false] mixed (by kernel_rfl) ?_
    refine sx ?_
    refine s_rw (t := 40) (v' := .pointer (some ((⟨b7, 0, none⟩ : Addr).add 1))) rfl rfl ?_
    refine sx ?_
    refine s_call rfl (bclone_s (xs := p.xs) (by exact rby) (by omega)) ?_
    rintro _ _ ⟨a2, c2, rfl, rfl⟩
    refine ⟨chk_held (by exact ent), ?_⟩
    refine sx ?_
    refine s_bsl [(⟨a2, c2, p.xs⟩ : SB)] rfl rfl fun b44 => ?_
    refine sx ?_
    refine s_app (xs := qs) ?_ (hby := by simp only [List.length_cons, List.length_nil]; omega)
    intro a4 c4
    refine sx ?_
    refine s_bar ?_
    refine sx ?_
    refine s_again (j + 1, a4, c4, qs ++ [⟨a2, c2, p.xs⟩]) ⟨by simp only; omega, ?_⟩ (by simp only; omega) (he := ?_)
    · simp only
      rw [snocT hkp, ← hq]
      simp
    · refine Ent.cons (by exact rm) (Ent.cons (by exact rm) (Ent.cons (by exact rm) ?_))
      exact Ent.famS (by exact rm) (by exact rm) (by exact ent)
  obtain rfl : j = n.k.ks.length := by omega
  have hqk : qs.map SB.xs = n.k.keys := by rw [hq, List.take_of_length_le (by simp)]
  have hfr : Ent (.hb b7 28 [.slice pa n.k.ps.length pc, .slice ka qs.length kc, .slice none 0 0] :: ol 3 pa pc n.k.ps :: ol 44 ka kc qs :: fam 5 qs :: .hb b4 28 [.slice none 0 0, .slice none 0 0, .slice none 0 0] :: .hb b2 28 n.cells :: H) (.hb b7 28 [.slice pa n.k.ps.length pc, .slice ka qs.length kc, .slice none 0 0] :: oK ⟨pa, pc, n.k.ps, ka, kc, qs⟩ :: .hb b4 28 [.slice none 0 0, .slice none 0 0, .slice none 0 0] :: .hb b2 28 n.cells :: H) := Ent.head (Ent.oK (k := ⟨pa, pc, n.k.ps, ka, kc, qs⟩) Rm.hd Rm.hd Rm.hd Ent.refl)
  refine s_ent _ hfr ?_
  refine sx ?_
  refine s_callV rfl (whole_s (n := n)) ?_
  refine sx ?_
  refine s_alloc fun b11 => ?_
  refine sx ?_
  have hnl := sumM_len n.md
  rw [show n.md.length = n.ms.length from List.length_map _] at hnl
  refine s_loop (fun q : TkJ => [(1, .int .i64 i), (4, .pointer (some ⟨b4, 0, none⟩)), (7, .pointer (some ⟨b7, 0, none⟩)), (10, .slice q.la q.ls.length q.lc), (11, .pointer (some ⟨b11, 0, none⟩)), (52, .slice n.ma n.ms.length n.mc), (53, .int .i64 n.ms.length), (54, .int .i64 q.i)]) (fun q => .hb b7 28 [.slice pa n.k.ps.length pc, .slice ka qs.length kc, .slice q.ma q.ms.length q.mc] :: .hb b11 76 n.cells :: oK ⟨pa, pc, n.k.ps, ka, kc, qs⟩ :: .hb b4 28 [.slice none 0 0, .slice none 0 0, .slice none 0 0] :: ol 56 q.ma q.mc q.ms :: ol 56 q.la q.lc q.ls :: stars oM q.ms :: stars oM q.ls :: H) (fun q => q.i ≤ n.ms.length ∧ q.ms.length + q.ls.length = q.i ∧ q.ms.map Mg.d = othM n.k.keys i (n.md.take q.i) ∧ q.ls.map Mg.d = forM n.k.keys i (n.md.take q.i)) (fun q => n.ms.length - q.i) ⟨0, none, 0, [], none, 0, []⟩ ⟨Nat.zero_le _, rfl, rfl, rfl⟩ ?_ (he := Ent.cons (by exact rm) (Ent.cons (by exact rm) (Ent.cons (by exact rm) (Ent.cons (by exact rm) (Ent.nilS.trans (Ent.head (Ent.nilS.trans (Ent.head (stars_nil.trans (Ent.head (stars_nil.trans (Ent.head (Ent.tl Ent.refl)))))))))))))
  rintro ⟨j, ma, mc, ms, la, lc, ls⟩ ⟨hj2, hlen, hms', hls'⟩
  simp only at hj2 hlen hms' hls' ⊢
  refine sx ?_
  refine s_if rfl (fun t4 => ?_) (fun t4 => ?_)
  · obtain ⟨m, hm⟩ := get_lt n.ms j (by omega)
    have hrm := hn.ms.el m (List.mem_of_getElem? hm)
    have hmd := get_map (f := Mg.d) hm
    have h6 : sumM (n.md.take (j + 1)) = sumM (n.md.take j) + lenM m.d := sumM_get hmd
    have h7 := sumM_take n.md (j + 1)
    have h8 : lenM m.d = 13 + m.lo.length + m.hi.length + m.v.length := rfl
    refine sx ?_
    refine s_alloc fun b13 => ?_
    refine sx ?_
    refine s_callV rfl (whose_s (n := n) (m := m) (hn.ent (by first | exact entq | exact ent)) (by exact rmg)) ?_
    refine sx ?_
    refine s_if rfl (fun t5 => ?_) (fun t5 => ?_)
    · refine sx ?_
      refine s_call rfl (ncopied_s (m := m) (by exact rmg) (by omega) (by omega) (by omega)) ?_
      rintro _ _ ⟨m', rfl, hm', rfl⟩
      refine ⟨chk_seq, ?_⟩
      refine sx ?_
      refine s_bsl [m'] rfl rfl fun b66 => ?_
      refine sx ?_
      refine s_app (xs := ls) ?_ (hby := by simp only [List.length_cons, List.length_nil]; omega)
      intro a4 c4
      refine sx ?_
      refine s_again ⟨j + 1, ma, mc, ms, a4, c4, ls ++ [m']⟩ ⟨by simp only; omega, by simp only [List.length_append, List.length_cons, List.length_nil]; omega, ?_, ?_⟩ (by simp only; omega) (he := ?_)
      · simp only
        rw [hms', snocT hmd, othM, othM, List.filter_append]
        simp [t5]
      · simp only [List.map_append]
        rw [hls', snocT hmd, forM, forM, List.filter_append]
        simp [t5, hm']
      · refine Ent.cons (by exact rm) (Ent.cons (by exact rm) (Ent.cons (by exact rm) (Ent.cons (by exact rm) (Ent.cons (by exact rm) (Ent.cons (by exact rm) (Ent.cons (by exact rm) ?_))))))
        exact Ent.trans (H' := ob m'.la m'.lc m'.lo :: ob m'.ha m'.hc m'.hi :: ob m'.va m'.vc m'.v :: stars oM ls :: H) (by first | exact entq | exact ent) (stars_snoc (f := oM) (s := m'))
    · refine sx ?_
      refine s_drU (.hb b7 28 [.slice pa n.k.ps.length pc, .slice ka qs.length kc, .slice ma ms.length mc] :: .hb b13 56 m.cells :: .hb b11 76 n.cells :: H) (.one true 0 (.one true 1 (.one true 2 (.one false 3 (.one false 4 (.one false 5 (.one true 6 .nil))))))) (.one false 7 .nil) [7] #[true, true, true, true, true, true, true, false] mixed (by kernel_rfl) ?_
      refine sx ?_
      refine s_call rfl (ncopied_s (m := m) (by exact rmg) (by omega) (by omega) (by omega)) ?_
      rintro _ _ ⟨m', rfl, hm', rfl⟩
      refine ⟨chk_held (by exact ent), ?_⟩
      refine sx ?_
      refine s_bsl [m'] rfl rfl fun b72 => ?_
      refine sx ?_
      refine s_app (xs := ms) ?_ (hby := by simp only [List.length_cons, List.length_nil]; omega)
      intro a4 c4
      refine sx ?_
      refine s_bar ?_
      refine sx ?_
      refine s_again ⟨j + 1, a4, c4, ms ++ [m'], la, lc, ls⟩ ⟨by simp only; omega, by simp only [List.length_append, List.length_cons, List.length_nil]; omega, ?_, ?_⟩ (by simp only; omega) (he := ?_)
      · simp only [List.map_append]
        rw [hms', snocT hmd, othM, othM, List.filter_append]
        simp [t5, hm']
      · simp only
        rw [hls', snocT hmd, forM, forM, List.filter_append]
        simp [t5]
      · refine Ent.cons (by exact rm) (Ent.cons (by exact rm) (Ent.cons (by exact rm) (Ent.cons (by exact rm) (Ent.cons (by exact rm) (Ent.cons (by exact rm) ?_)))))
        exact Ent.trans (H' := ob m'.la m'.lc m'.lo :: ob m'.ha m'.hc m'.hi :: ob m'.va m'.vc m'.v :: stars oM ms :: stars oM ls :: H) (by first | exact entq | exact ent) (stars_snoc (f := oM) (s := m'))
  obtain rfl : j = n.ms.length := by omega
  refine sx ?_
  have eT : n.md.take n.ms.length = n.md := List.take_of_length_le (by simp)
  rw [eT] at hms' hls'
  exact s_retcvv rfl rfl rfl rfl (by exact at_) rfl ⟨⟨⟨pa, pc, n.k.ps, ka, kc, qs⟩, ma, mc, ms⟩, la, lc, ls, 0, rfl, rfl, by rw [if_neg (by omega)]; exact ⟨rfl, by show (n.k.ps, qs.map SB.xs) = _; rw [hqk], hms', hls'⟩⟩ (Ent.cons (by exact rm) (Ent.tl (Ent.tl (by exact (Ent.cons (by exact rm) (Ent.cons (by exact rm) (Ent.tl (Ent.cons (by exact rm) Ent.refl))))))))
end Go.Sx
