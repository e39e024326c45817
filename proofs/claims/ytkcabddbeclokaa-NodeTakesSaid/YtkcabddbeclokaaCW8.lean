/- Part of a proof: the node's law NodeDecodes, walked. -/
import Derived.Test.YtkcabddbeclokaaCW5
import Derived.Test.YtkcabddbeclokaaCW4j
import Derived.Test.YtkcabddbeclokaaCVK
import Derived.Test.YtkcabddbeclokaaCVMj
namespace Go.Sx
open Go Go.Proofs
set_option maxRecDepth 10000
theorem sumM_mem {l : List MD} {m : MD} (h : m ∈ l) : lenM m ≤ sumM l := by
  induction l with
  | nil => cases h
  | cons a l ih =>
    simp only [sumM, List.map_cons, List.sum_cons]
    rcases List.mem_cons.1 h with rfl | h
    · omega
    · have := ih h
      simp only [sumM] at this
      omega
/-- A node that has few parts, each short. -/
structure Nd.Few (n : Nd) : Prop where
  ps : n.k.ps.length ≤ 65536
  ks : n.k.ks.length ≤ 65536
  kl : ∀ p ∈ n.k.ks, p.xs.length ≤ 4096
  ms : n.ms.length ≤ 4096
  ml : ∀ m ∈ n.ms, m.lo.length ≤ 4096 ∧ m.hi.length ≤ 4096 ∧ m.v.length ≤ 4096
theorem few_chk {size : Int} {n : Nd} (h : chkN size n.k.d n.md = 0) : n.Few := by
  obtain ⟨g1, g2, g3, g4⟩ := chkN_0 h
  obtain ⟨h1, ⟨h2, _, h3⟩, h4, _, _⟩ := chkK_0 g1
  have hs := sizedB_bd h1
  have h5 := pg_bd h3
  have hb : bytesM n.md = 4 + sumM n.md := rfl
  have hl := sumM_len n.md
  have e2 : n.k.d.1.length = n.k.ps.length := rfl
  have e3 : n.k.d.2.length = n.k.ks.length := by simp [Kd.keys]
  have e4 : n.md.length = n.ms.length := by simp [Nd.md]
  refine ⟨by omega, by omega, fun p hp => ?_, by omega, fun m hm => ?_⟩
  · have := (h4 p.xs (List.mem_map.2 ⟨p, hp, rfl⟩)).2
    omega
  · have := sumM_mem (l := n.md) (List.mem_map.2 ⟨m, hm, rfl⟩)
    simp only [lenM] at this
    omega
theorem dnd_few {size : Int} {xs : Bs} {n : Nd} (h : (n.k.d, n.md) = decND size xs) : n.Few := by
  unfold decND at h
  rcases hr : decNo size xs with _ | p
  · rw [hr] at h
    have h1 : n.k.ps = [] := congrArg (fun p => p.1.1) h
    have h2 : n.k.keys = [] := congrArg (fun p => p.1.2) h
    have h3 : n.md = [] := congrArg Prod.snd h
    have h2 : n.k.ks = [] := by simpa [Kd.keys] using h2
    have h3 : n.ms = [] := by simpa [Nd.md] using h3
    refine ⟨by simp [h1], by simp [h2], by simp [h2], by simp [h3], by simp [h3]⟩
  · rw [hr] at h
    have := (decNo_some hr).1
    have e1 : n.k.d = p.1 := congrArg Prod.fst h
    have e2 : n.md = p.2 := congrArg Prod.snd h
    rw [← e1, ← e2] at this
    exact few_chk this
variable {w0 : World} {H : List Ck}
/-- A new book. -/
abbrev nb0 (k : Nat) : NB := ⟨k, none, 0, [], none, 0, [], none, 0, [], none, 0, [], none, 0, []⟩
theorem nb0_ok (k : Nat) : (nb0 k).Ok 0 := { same := rfl, len := Nat.le_refl _, leni := Nat.le_refl _, lenk := Nat.le_refl _, lenm := Nat.le_refl _, small := fun s h => (by cases h), smalli := fun s h => (by cases h), smallk := fun s h => (by cases h), smallm := fun s h => (by cases h) }
theorem nb0_ent {k : Nat} : Ent (.hb k 32 [.slice none 0 0, .slice none 0 0, .slice none 0 0, .slice none 0 0, .slice none 0 0] :: H) ((nb0 k).ck :: H) := by
  refine Ent.trans ?_ NB.shut
  refine Ent.cons (by exact rm) ?_
  refine Ent.nilS.trans (Ent.head ?_)
  refine Ent.nilS.trans (Ent.head ?_)
  refine fam_nil.trans (Ent.head ?_)
  refine fam_nil.trans (Ent.head ?_)
  refine Ent.star ?_
  refine Ent.nilS.trans (Ent.head ?_)
  refine Ent.nilS.trans (Ent.head ?_)
  refine Ent.nilS.trans (Ent.head ?_)
  refine fam_nil.trans (Ent.head ?_)
  refine fam_nil.trans (Ent.head ?_)
  exact fam_nil
theorem nsame_t {n q : Nd} (hn : RNd w0 H n) (hq : RNd w0 H q) (h : (n.k.d, n.md) = (q.k.d, q.md)) : FnV Try.prog w0 H 14 #[.agg n.cells.toArray, .agg q.cells.toArray] (.bool true) := by
  have := nsame_s hn hq
  rwa [decide_eq_true ⟨congrArg Prod.fst h, congrArg Prod.snd h⟩] at this
theorem nmarked_s {a : Option Addr} {c : Nat} {xs : Bs} (ha : RBy w0 H a c xs) (hx : xs.length + 2 ≤ 140737488355328) : FnS Try.prog w0 H 11 #[.slice a xs.length c] (fun v H' => ∃ a c, v = .slice a (xs ++ [167, 168]).length c ∧ H' = ob a c (xs ++ [167, 168]) :: H) := by
  refine fns_enter Try.func11 rfl rfl rfl ?_
  refine sx ?_
  refine s_bsl ([] : Bs) rfl rfl fun b3 => ?_
  refine sx ?_
  refine s_app ?_ (ys := xs)
  intro a5 c5
  refine s_bsl ([167, 168] : Bs) rfl rfl fun b6 => ?_
  refine s_app ?_
  intro a7 c7
  refine sx ?_
  exact s_ret1 rfl rfl ⟨a7, c7, rfl, rfl⟩
theorem nnode_e {B : NB} {n m : Nat} {q : Nd} (hB : B.Ok n) (hn : n ≤ 1048576) (hm : n + 131072 ≤ m) (hq : q.Few) :
    FnS Try.prog w0 (oN q (B.ck :: H)) 15 #[.pointer (some ⟨B.k, 0, none⟩), .agg q.cells.toArray] (NBR B m H) := by
  have h1 := hq.ps
  have h2 := hq.ks
  have h3 := hq.ms
  refine FnS.mono (nnode_s hB (by omega) (by omega) (by omega) (by omega) (fun p hp => by have := hq.kl p hp; omega) (fun m hm => by have := hq.ml m hm; omega)) ?_
  rintro v H' ⟨B', e1, e2, e3⟩
  exact ⟨B', e1, e2, e3.mono (by omega)⟩
set_option maxHeartbeats 2000000 in
theorem ndecodes_s {size : Int} {a a2 : Option Addr} {c c2 : Nat} {xs ys : Bs} (hx : RBy w0 H a c xs) (hy : RBy w0 H a2 c2 ys) :
    FnV Try.prog w0 H 4 #[.int .i64 size, .slice a xs.length c, .slice a2 ys.length c2] (.bool true) := by
  refine fns_enter Try.func4 rfl rfl rfl ?_
  refine s_kn (Kn.by hx) fun l1 => ?_
  simp only [maxLen] at l1
  refine s_kn (Kn.by hy) fun l2 => ?_
  simp only [maxLen] at l2
  refine sx ?_
  refine s_callV rfl nshown_s ?_
  refine sx ?_
  refine s_lif rfl (fun t3 => ?_) (fun t3 => ?_)
  · refine sx ?_
    exact s_ret1 rfl rfl ⟨rfl, rfl⟩
  refine sx ?_
  refine s_if rfl (fun t4 => ?_) (fun t4 => ?_)
  · refine sx ?_
    exact s_ret1 rfl rfl ⟨rfl, rfl⟩
  refine sx ?_
  refine s_boxA rfl fun b8 => ?_
  refine sx ?_
  refine s_call rfl (nmarked_s (by exact rby) (by omega)) ?_
  rintro _ _ ⟨a9, c9, rfl, rfl⟩
  refine ⟨chk_seq, ?_⟩
  refine s_entL (ob a9 c9 (xs ++ [167, 168]) :: (nb0 b8).ck :: H) (Ent.head nb0_ent) ?_
  refine s_knL (Kn.by (RBy.hd : RBy w0 (ob a9 c9 (xs ++ [167, 168]) :: (nb0 b8).ck :: H) a9 c9 _)) fun l9 => ?_
  simp only [maxLen, List.length_append, List.length_cons, List.length_nil] at l9
  have hin : RBy w0 (ob a9 c9 (xs ++ [167, 168]) :: (nb0 b8).ck :: H) a9 c9 xs := by
    have := (RBy.hd : RBy w0 (ob a9 c9 (xs ++ [167, 168]) :: (nb0 b8).ck :: H) a9 c9 (xs ++ [167, 168])).take (k := xs.length) (by simp)
    rwa [List.take_left' rfl] at this
  refine sx ?_
  refine s_call rfl (ndecode_s (size := size) (by exact rby) (by omega)) ?_
  rintro _ _ ⟨x, rfl, hx, rfl⟩
  refine ⟨chk_seq, ?_⟩
  refine sx ?_
  refine s_alloc fun b11 => ?_
  refine sx ?_
  refine s_call rfl (ndecode_s (size := size) (by exact rby) (by omega)) ?_
  rintro _ _ ⟨y, rfl, hy, rfl⟩
  refine ⟨chk_seq, ?_⟩
  refine sx ?_
  refine s_alloc fun b13 => ?_
  refine sx ?_
  refine s_call rfl (ndecode_s (size := size) (by exact rby) (by omega)) ?_
  rintro _ _ ⟨o, rfl, ho, rfl⟩
  refine ⟨chk_seq, ?_⟩
  refine sx ?_
  refine s_alloc fun b15 => ?_
  refine sx ?_
  refine s_call rfl (ndecode_s (size := size) (by exact rby) (by omega)) ?_
  rintro _ _ ⟨z, rfl, hz, rfl⟩
  refine ⟨chk_seq, ?_⟩
  refine sx ?_
  refine s_alloc fun b17 => ?_
  refine sx ?_
  refine s_call rfl (rndecode_s (size := size) (by exact rby) (by omega)) ?_
  rintro _ _ ⟨p, rfl, hp, rfl⟩
  refine ⟨chk_seq, ?_⟩
  refine sx ?_
  refine s_alloc fun b19 => ?_
  refine sx ?_
  refine s_call rfl (rndecode_s (size := size) (by exact rby) (by omega)) ?_
  rintro _ _ ⟨q, rfl, hq, rfl⟩
  refine ⟨chk_seq, ?_⟩
  refine sx ?_
  refine s_alloc fun b21 => ?_
  have rx : RNd w0 (.hb b21 39 q.cells :: oN q (.hb b19 39 p.cells :: oN p (.hb b17 39 z.cells :: oN z (.hb b15 39 o.cells :: oN o (.hb b13 39 y.cells :: oN y (.hb b11 39 x.cells :: oN x (ob a9 c9 (xs ++ [167, 168]) :: (nb0 b8).ck :: H))))))) x := RNd.oN.tl.tl.tl.tl.tl.tl.tl.tl.tl.tl.tl.tl.tl.tl.tl.tl.tl.tl.tl.tl.tl
  have ry : RNd w0 (.hb b21 39 q.cells :: oN q (.hb b19 39 p.cells :: oN p (.hb b17 39 z.cells :: oN z (.hb b15 39 o.cells :: oN o (.hb b13 39 y.cells :: oN y (.hb b11 39 x.cells :: oN x (ob a9 c9 (xs ++ [167, 168]) :: (nb0 b8).ck :: H))))))) y := RNd.oN.tl.tl.tl.tl.tl.tl.tl.tl.tl.tl.tl.tl.tl.tl.tl.tl.tl
  have ro : RNd w0 (.hb b21 39 q.cells :: oN q (.hb b19 39 p.cells :: oN p (.hb b17 39 z.cells :: oN z (.hb b15 39 o.cells :: oN o (.hb b13 39 y.cells :: oN y (.hb b11 39 x.cells :: oN x (ob a9 c9 (xs ++ [167, 168]) :: (nb0 b8).ck :: H))))))) o := RNd.oN.tl.tl.tl.tl.tl.tl.tl.tl.tl.tl.tl.tl.tl
  have rz : RNd w0 (.hb b21 39 q.cells :: oN q (.hb b19 39 p.cells :: oN p (.hb b17 39 z.cells :: oN z (.hb b15 39 o.cells :: oN o (.hb b13 39 y.cells :: oN y (.hb b11 39 x.cells :: oN x (ob a9 c9 (xs ++ [167, 168]) :: (nb0 b8).ck :: H))))))) z := RNd.oN.tl.tl.tl.tl.tl.tl.tl.tl.tl
  have rp : RNd w0 (.hb b21 39 q.cells :: oN q (.hb b19 39 p.cells :: oN p (.hb b17 39 z.cells :: oN z (.hb b15 39 o.cells :: oN o (.hb b13 39 y.cells :: oN y (.hb b11 39 x.cells :: oN x (ob a9 c9 (xs ++ [167, 168]) :: (nb0 b8).ck :: H))))))) p := RNd.oN.tl.tl.tl.tl.tl
  have rq : RNd w0 (.hb b21 39 q.cells :: oN q (.hb b19 39 p.cells :: oN p (.hb b17 39 z.cells :: oN z (.hb b15 39 o.cells :: oN o (.hb b13 39 y.cells :: oN y (.hb b11 39 x.cells :: oN x (ob a9 c9 (xs ++ [167, 168]) :: (nb0 b8).ck :: H))))))) q := RNd.oN.tl
  refine sx ?_
  refine s_callV rfl (nsame_t (n := x) (q := p) rx rp (hx.trans hp.symm)) ?_
  refine sx ?_
  refine s_callV rfl (nsame_t (n := y) (q := p) ry rp (hy.trans hp.symm)) ?_
  refine sx ?_
  refine s_callV rfl (nsame_t (n := o) (q := q) ro rq (ho.trans hq.symm)) ?_
  refine sx ?_
  refine s_callV rfl (nsame_t (n := z) (q := p) rz rp (hz.trans hp.symm)) ?_
  refine sx ?_
  have hL : (xs ++ [167, 168]).length = xs.length + 2 := by simp
  refine s_loop (fun (i : Nat × Bs) => [(0, .int .i64 size), (1, .slice a xs.length c), (8, .pointer (some ⟨b8, 0, none⟩)), (9, .slice a9 (xs ++ [167, 168]).length c9), (10, .slice a9 xs.length c9), (11, .pointer (some ⟨b11, 0, none⟩)), (13, .pointer (some ⟨b13, 0, none⟩)), (15, .pointer (some ⟨b15, 0, none⟩)), (17, .pointer (some ⟨b17, 0, none⟩)), (27, .int .i64 i.1)])
    (fun i => ob a9 c9 i.2 :: .hb b17 39 z.cells :: oN z (.hb b15 39 o.cells :: oN o (.hb b13 39 y.cells :: oN y (.hb b11 39 x.cells :: oN x ((nb0 b8).ck :: H))))) (fun i => i.1 ≤ xs.length ∧ i.2.length = xs.length + 2) (fun i => xs.length - i.1) (0, xs ++ [167, 168]) ⟨Nat.zero_le _, hL⟩ ?_ (he := by
      refine Ent.cons (by exact rm) ?_
      exact Ent.tl (Ent.tl (Ent.tl (Ent.tl (Ent.tl (Ent.tl (Ent.tl (Ent.tl (Ent.refl)))))))))
  clear rx ry ro rz rp rq
  rintro ⟨n, zs⟩ ⟨hn, hzl⟩
  simp only at hn hzl ⊢
  refine sx ?_
  refine s_if rfl (fun t5 => ?_) (fun t5 => ?_)
  · refine sx ?_
    refine s_yS rfl rfl rfl (y_xorb (b := 51) rfl rfl) ?_
    refine sx ?_
    refine s_set1g (i := n) (y := zs.getD n 0 ^^^ 51) rfl rfl (by exact at_) rfl (by omega) ?_
    refine sx ?_
    exact s_again (n + 1, zs.set n (zs.getD n 0 ^^^ 51)) ⟨by simp only; omega, by simp only [List.length_set]; exact hzl⟩ (by simp only; omega)
  clear hin
  have hin : RBy w0 (ob a9 c9 zs :: .hb b17 39 z.cells :: oN z (.hb b15 39 o.cells :: oN o (.hb b13 39 y.cells :: oN y (.hb b11 39 x.cells :: oN x ((nb0 b8).ck :: H))))) a9 c9 (zs.take xs.length) := (RBy.hd : RBy w0 (ob a9 c9 zs :: .hb b17 39 z.cells :: oN z (.hb b15 39 o.cells :: oN o (.hb b13 39 y.cells :: oN y (.hb b11 39 x.cells :: oN x ((nb0 b8).ck :: H))))) a9 c9 zs).take (by omega)
  have hil : (zs.take xs.length).length = xs.length := by rw [List.length_take]; omega
  generalize zs.take xs.length = us at hin hil
  have hd1 := ndecode_s (size := size) hin (by omega)
  rw [hil] at hd1
  refine sx ?_
  refine s_call rfl hd1 ?_
  rintro _ _ ⟨w, rfl, hw, rfl⟩
  refine ⟨chk_seq, ?_⟩
  refine sx ?_
  refine s_alloc fun b28 => ?_
  refine sx ?_
  refine s_bsl ([] : List UInt8) rfl rfl fun b10 => ?_
  refine sx ?_
  refine s_app (ys := us) ?_ (hm := hil.symm)
  intro a11 c11
  refine sx ?_
  refine s_call rfl (rndecode_s (size := size) (xs := [] ++ us) (by exact rby) (by rw [List.nil_append]; omega)) ?_
  rintro _ _ ⟨v, rfl, hv, rfl⟩
  have hv : (v.k.d, v.md) = decND size us := hv
  refine ⟨chk_seq, ?_⟩
  refine sx ?_
  refine s_alloc fun b30 => ?_
  refine sx ?_
  have rv : RNd w0 (.hb b30 39 v.cells :: oN v (ob a11 c11 ([] ++ us) :: .hb b28 39 w.cells :: oN w (ob a9 c9 zs :: .hb b17 39 z.cells :: oN z (.hb b15 39 o.cells :: oN o (.hb b13 39 y.cells :: oN y (.hb b11 39 x.cells :: oN x ((nb0 b8).ck :: H))))))) v := RNd.oN.tl
  have rw' : RNd w0 (.hb b30 39 v.cells :: oN v (ob a11 c11 ([] ++ us) :: .hb b28 39 w.cells :: oN w (ob a9 c9 zs :: .hb b17 39 z.cells :: oN z (.hb b15 39 o.cells :: oN o (.hb b13 39 y.cells :: oN y (.hb b11 39 x.cells :: oN x ((nb0 b8).ck :: H))))))) w := RNd.oN.tl.tl.tl.tl.tl.tl
  refine s_callV rfl (nsame_t (n := w) (q := v) rw' rv (hw.trans hv.symm)) ?_
  refine s_rw (t := 31) (v' := .int .i64 (decNE size us)) rfl rfl ?_
  clear rv rw'
  refine sx ?_
  refine s_entL (oN x ((nb0 b8).ck :: oN y (oN o (oN z (oN w (.hb b11 39 x.cells :: .hb b13 39 y.cells :: .hb b15 39 o.cells :: .hb b17 39 z.cells :: .hb b28 39 w.cells :: H)))))) (Ent.cons (by exact rm) (Ent.cons (by exact rm) (Ent.cons (by exact rm) (Ent.cons (by exact rm) (Ent.cons (by exact rm) (Ent.cons (by exact rm) (Ent.cons (by exact rm) (Ent.cons (by exact rm) (Ent.cons (by exact rm) (Ent.cons (by exact rm) (Ent.cons (by exact rm) (Ent.cons (by exact rm) (Ent.cons (by exact rm) (Ent.cons (by exact rm) (Ent.cons (by exact rm) (Ent.cons (by exact rm) (Ent.cons (by exact rm) (Ent.cons (by exact rm) (Ent.cons (by exact rm) (Ent.cons (by exact rm) (Ent.cons (by exact rm) (Ent.tl (Ent.tl (Ent.tl (Ent.tl (Ent.tl (Ent.tl Ent.refl))))))))))))))))))))))))))) ?_
  refine s_call rfl (nnode_e (q := x) (n := 0) (m := 131072) (H := oN y (oN o (oN z (oN w (.hb b11 39 x.cells :: .hb b13 39 y.cells :: .hb b15 39 o.cells :: .hb b17 39 z.cells :: .hb b28 39 w.cells :: H))))) (nb0_ok b8) (by omega) (by omega) (dnd_few hx)) ?_
  rintro _ _ ⟨B0, rfl, k0, o0⟩
  refine ⟨chk_seq, ?_⟩
  have k0 : B0.k = b8 := k0
  rw [show b8 = B0.k from k0.symm]
  refine s_entL (oN y (B0.ck :: oN o (oN z (oN w (.hb b11 39 x.cells :: .hb b13 39 y.cells :: .hb b15 39 o.cells :: .hb b17 39 z.cells :: .hb b28 39 w.cells :: H))))) (Ent.cons (by exact rm) (Ent.cons (by exact rm) (Ent.cons (by exact rm) (Ent.refl)))) ?_
  refine sx ?_
  refine s_call rfl (nnode_e (q := y) (n := 131072) (m := 262144) (H := oN o (oN z (oN w (.hb b11 39 x.cells :: .hb b13 39 y.cells :: .hb b15 39 o.cells :: .hb b17 39 z.cells :: .hb b28 39 w.cells :: H)))) o0 (by omega) (by omega) (dnd_few hy)) ?_
  rintro _ _ ⟨B1, rfl, k1, o1⟩
  refine ⟨chk_seq, ?_⟩
  rw [← k1]
  refine s_entL (oN o (B1.ck :: oN z (oN w (.hb b11 39 x.cells :: .hb b13 39 y.cells :: .hb b15 39 o.cells :: .hb b17 39 z.cells :: .hb b28 39 w.cells :: H)))) (Ent.cons (by exact rm) (Ent.cons (by exact rm) (Ent.cons (by exact rm) (Ent.refl)))) ?_
  refine sx ?_
  refine s_call rfl (nnode_e (q := o) (n := 262144) (m := 393216) (H := oN z (oN w (.hb b11 39 x.cells :: .hb b13 39 y.cells :: .hb b15 39 o.cells :: .hb b17 39 z.cells :: .hb b28 39 w.cells :: H))) o1 (by omega) (by omega) (dnd_few ho)) ?_
  rintro _ _ ⟨B2, rfl, k2, o2⟩
  refine ⟨chk_seq, ?_⟩
  rw [← k2]
  refine s_entL (oN z (B2.ck :: oN w (.hb b11 39 x.cells :: .hb b13 39 y.cells :: .hb b15 39 o.cells :: .hb b17 39 z.cells :: .hb b28 39 w.cells :: H))) (Ent.cons (by exact rm) (Ent.cons (by exact rm) (Ent.cons (by exact rm) (Ent.refl)))) ?_
  refine sx ?_
  refine s_call rfl (nnode_e (q := z) (n := 393216) (m := 524288) (H := oN w (.hb b11 39 x.cells :: .hb b13 39 y.cells :: .hb b15 39 o.cells :: .hb b17 39 z.cells :: .hb b28 39 w.cells :: H)) o2 (by omega) (by omega) (dnd_few hz)) ?_
  rintro _ _ ⟨B3, rfl, k3, o3⟩
  refine ⟨chk_seq, ?_⟩
  rw [← k3]
  refine s_entL (oN w (B3.ck :: .hb b11 39 x.cells :: .hb b13 39 y.cells :: .hb b15 39 o.cells :: .hb b17 39 z.cells :: .hb b28 39 w.cells :: H)) (Ent.cons (by exact rm) (Ent.cons (by exact rm) (Ent.cons (by exact rm) (Ent.refl)))) ?_
  refine sx ?_
  refine s_call rfl (nnode_e (q := w) (n := 524288) (m := 655360) (H := .hb b11 39 x.cells :: .hb b13 39 y.cells :: .hb b15 39 o.cells :: .hb b17 39 z.cells :: .hb b28 39 w.cells :: H) o3 (by omega) (by omega) (dnd_few hw)) ?_
  rintro _ _ ⟨B4, rfl, k4, o4⟩
  refine ⟨chk_seq, ?_⟩
  rw [← k4]
  refine sx ?_
  refine s_call rfl (nends_s (H := .hb b11 39 x.cells :: .hb b13 39 y.cells :: .hb b15 39 o.cells :: .hb b17 39 z.cells :: .hb b28 39 w.cells :: H) o4 (by omega)) ?_
  rintro _ _ ⟨rfl, rfl⟩
  refine ⟨chk_seq, ?_⟩
  refine sx ?_
  exact s_ret1 rfl rfl ⟨rfl, rfl⟩ (Ent.tl (Ent.tl (Ent.tl (Ent.tl (Ent.tl Ent.refl)))))
end Go.Sx
