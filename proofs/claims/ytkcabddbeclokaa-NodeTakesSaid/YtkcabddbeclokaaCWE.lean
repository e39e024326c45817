/- Part of a proof: what Weights and Take answer is what the document says; it is kept. -/
import Derived.Test.YtkcabddbeclokaaCWD
import Derived.Test.YtkcabddbeclokaaCW9
namespace Go.Sx
open Go Go.Proofs
set_option maxRecDepth 10000
variable {w0 : World} {H : List Ck}
/-- The same limits, in plain words. -/
theorem lim_of {n q : Nd} (hL : n.Lim) (h1 : q.k.ps.length ≤ n.k.ps.length) (h2 : ∀ x ∈ q.k.keys, x ∈ n.k.keys) (h3 : q.k.ks.length ≤ n.k.ks.length) (h4 : ∀ x ∈ q.md, x ∈ n.md) (h5 : q.ms.length ≤ n.ms.length) : q.Lim := by
  refine ⟨Nat.le_trans h1 hL.ps, Nat.le_trans h3 hL.ks, Nat.le_trans h5 hL.ms, fun p hp => ?_, fun m hm => ?_⟩
  · obtain ⟨r, hr, e⟩ := List.mem_map.1 (h2 p.xs (List.mem_map.2 ⟨p, hp, rfl⟩))
    rw [← e]; exact hL.kl r hr
  · obtain ⟨r, hr, e⟩ := List.mem_map.1 (h4 m.d (List.mem_map.2 ⟨m, hm, rfl⟩))
    have e1 : r.lo = m.lo := congrArg MD.lo e
    have e2 : r.hi = m.hi := congrArg MD.hi e
    have e3 : r.v = m.v := congrArg MD.v e
    rw [← e1, ← e2, ← e3]; exact hL.ml r hr
theorem lim_tk {n q : Nd} {i : Int} {ls : List Mg} {e : Int} (hL : n.Lim) (hA : if i < 0 ∨ (n.k.ps.length : Int) ≤ i then e = 1 ∧ q.k.d = ([], []) ∧ q.md = [] ∧ ls = [] else e = 0 ∧ q.k.d = n.k.d ∧ q.md = othM n.k.keys i n.md ∧ ls.map Mg.d = forM n.k.keys i n.md) : q.Lim ∧ (Nd.mk kd0 none 0 ls).Lim := by
  have hl : ∀ p : MD → Bool, (n.md.filter p).length ≤ n.ms.length := fun p => by
    have := List.length_filter_le p n.md
    rwa [show n.md.length = n.ms.length from List.length_map _] at this
  have key : ∀ ms : List Mg, (ms.map Mg.d = [] ∨ ∃ p : MD → Bool, ms.map Mg.d = n.md.filter p) → (∀ x ∈ ms.map Mg.d, x ∈ n.md) ∧ ms.length ≤ n.ms.length := fun ms h => by
    rcases h with h | ⟨p, h⟩
    · have : ms = [] := by simpa using h
      subst this; exact ⟨fun x hx => (by cases hx), Nat.zero_le _⟩
    · refine ⟨fun x hx => by rw [h] at hx; exact (List.mem_filter.1 hx).1, ?_⟩
      have e : ms.length = (n.md.filter p).length := by rw [← h, List.length_map]
      rw [e]; exact hl p
  have k0 : ∀ x ∈ kd0.keys, x ∈ n.k.keys := fun x hx => by cases hx
  split at hA
  · obtain ⟨_, h1, h2, h3⟩ := hA
    have a1 : q.k.ps = [] := congrArg Prod.fst h1
    have a2 : q.k.keys = [] := congrArg Prod.snd h1
    have a3 : q.k.ks = [] := by simpa [Kd.keys] using a2
    obtain ⟨b1, b2⟩ := key q.ms (.inl h2)
    obtain ⟨c1, c2⟩ := key ls (.inl (by rw [h3]; rfl))
    exact ⟨lim_of hL (by rw [a1]; exact Nat.zero_le _) (by rw [a2]; intro x hx; cases hx) (by rw [a3]; exact Nat.zero_le _) b1 b2, lim_of hL (Nat.zero_le _) k0 (Nat.zero_le _) c1 c2⟩
  · obtain ⟨_, h1, h2, h3⟩ := hA
    have a1 : q.k.ps = n.k.ps := congrArg Prod.fst h1
    have a2 : q.k.keys = n.k.keys := congrArg Prod.snd h1
    have a3 : q.k.ks.length = n.k.ks.length := by have := congrArg List.length a2; simpa [Kd.keys] using this
    obtain ⟨b1, b2⟩ := key q.ms (.inr ⟨_, h2⟩)
    obtain ⟨c1, c2⟩ := key ls (.inr ⟨_, h3⟩)
    exact ⟨lim_of hL (by rw [a1]; exact Nat.le_refl _) (by rw [a2]; exact fun _ h => h) (by omega) b1 b2, lim_of hL (Nat.zero_le _) k0 (Nat.zero_le _) c1 c2⟩
set_option maxHeartbeats 2000000 in
theorem took_s {B : NB} {cnt : Nat} {n q : Nd} {i : Int} (hn : RNd w0 H n) (hq : RNd w0 H q) (hd : q.k.d = n.k.d) (hm : q.md = n.md) (hL : n.Lim) (hk : n.k.ks.length < n.k.ps.length) (h2 : keysB n.k.keys ≤ 4294967296) (h3 : sumM n.md ≤ 549755813888) (hB : B.Ok cnt) (hc : cnt ≤ 274877906944) :
    FnS Try.prog w0 (B.ck :: H) 23 #[.pointer (some ⟨B.k, 0, none⟩), .agg n.cells.toArray, .int .i64 i, .agg q.cells.toArray] (fun v H' => v = .bool true ∧ NBR B (cnt + 34359738368) H v H') := by
  refine fns_enter Try.func23 rfl rfl rfl ?_
  have e1 : q.k.ps = n.k.ps := congrArg Prod.fst hd
  have e2 : q.k.keys = n.k.keys := congrArg Prod.snd hd
  have e3 : q.k.ks.length = n.k.ks.length := by have := congrArg List.length e2; simpa [Kd.keys] using this
  have hLp := hL.ps
  refine sx ?_
  refine s_boxA rfl fun b5 => ?_
  refine sx ?_
  refine s_boxA rfl fun b7 => ?_
  refine sx ?_
  refine s_call rfl (nweights_s (n := n) (by exact rnd) hL.ps h3) ?_
  rintro _ _ ⟨wa, wc, rfl, rfl⟩
  refine ⟨chk_seq, ?_⟩
  refine sx ?_
  refine s_call rfl (ntake_s (n := n) (i := i) (by exact rnd) hL.ps h2 h3) ?_
  rintro _ _ ⟨a, la, lc, ls, e, rfl, rfl, hA⟩
  refine ⟨chk_seq, ?_⟩
  refine sx ?_
  refine s_alloc fun b10 => ?_
  refine sx ?_
  refine s_call rfl (rweights_s (n := q) (by exact rnd) (by rw [e1]; exact hL.ps) (by rw [e3, e1]; exact hk) (by rw [hm]; exact h3)) ?_
  rw [e1, e2, hm]
  rintro _ _ ⟨xa, xc, rfl, rfl⟩
  refine ⟨chk_seq, ?_⟩
  refine sx ?_
  refine s_call rfl (rntake_s (n := q) (i := i) (by exact rnd) (by rw [e1]; exact hL.ps) (by rw [e2]; omega) (by rw [hm]; exact h3)) ?_
  rw [e1, e2, hm, hd]
  rintro _ _ ⟨b, ma, mc, ms, f, rfl, rfl, hA2⟩
  refine ⟨chk_seq, ?_⟩
  refine sx ?_
  refine s_alloc fun b14 => ?_
  obtain ⟨hfe, hab, hlm⟩ : f = e ∧ (a.k.d, a.md) = (b.k.d, b.md) ∧ ls.map Mg.d = ms.map Mg.d := by
    split at hA
    · rename_i h; rw [if_pos h] at hA2
      obtain ⟨x1, x2, x3, x4⟩ := hA
      obtain ⟨y1, y2, y3, y4⟩ := hA2
      exact ⟨by omega, by rw [x2, x3, y2, y3], by rw [x4, y4]⟩
    · rename_i h; rw [if_neg h] at hA2
      obtain ⟨x1, x2, x3, x4⟩ := hA
      obtain ⟨y1, y2, y3, y4⟩ := hA2
      exact ⟨by omega, by rw [x2, x3, y2, y3], by rw [x4, y4]⟩
  subst hfe
  obtain ⟨la1, la2⟩ := lim_tk hL hA
  clear hA hA2
  have hW : (wtL n.k.ps.length n.k.keys n.md).length = n.k.ps.length := wtL_len ..
  generalize wtL n.k.ps.length n.k.keys n.md = W at hW ⊢
  refine sx ?_
  have ra : RNd w0 (.hb b14 39 b.cells :: ol 78 ma mc ms :: stars oM ms :: oN b (ol 3 xa xc W :: .hb b10 39 a.cells :: ol 78 la lc ls :: stars oM ls :: oN a (ol 3 wa wc W :: .hb b7 39 q.cells :: .hb b5 39 n.cells :: B.ck :: H))) a := RNd.oN.tl.tl.tl.tl.tl.tl.tl.tl.tl.tl
  have rb : RNd w0 (.hb b14 39 b.cells :: ol 78 ma mc ms :: stars oM ms :: oN b (ol 3 xa xc W :: .hb b10 39 a.cells :: ol 78 la lc ls :: stars oM ls :: oN a (ol 3 wa wc W :: .hb b7 39 q.cells :: .hb b5 39 n.cells :: B.ck :: H))) b := RNd.oN.tl.tl.tl
  refine s_callV rfl (nsame_t (n := a) (q := b) ra rb hab) ?_
  clear ra rb
  have rl : RMs w0 (.hb b14 39 b.cells :: ol 78 ma mc ms :: stars oM ms :: oN b (ol 3 xa xc W :: .hb b10 39 a.cells :: ol 78 la lc ls :: stars oM ls :: oN a (ol 3 wa wc W :: .hb b7 39 q.cells :: .hb b5 39 n.cells :: B.ck :: H))) la lc ls := (⟨RSl.hd, fun m hm => ((RMg.oM (H := [])).ent (by rw [List.append_nil]; exact stars_mem hm)).tl⟩ : RMs w0 (ol 78 la lc ls :: stars oM ls :: oN a (ol 3 wa wc W :: .hb b7 39 q.cells :: .hb b5 39 n.cells :: B.ck :: H)) la lc ls).tl.tl.tl.tl.tl.tl.tl.tl
  have rm_ : RMs w0 (.hb b14 39 b.cells :: ol 78 ma mc ms :: stars oM ms :: oN b (ol 3 xa xc W :: .hb b10 39 a.cells :: ol 78 la lc ls :: stars oM ls :: oN a (ol 3 wa wc W :: .hb b7 39 q.cells :: .hb b5 39 n.cells :: B.ck :: H))) ma mc ms := (⟨RSl.hd, fun m hm => ((RMg.oM (H := [])).ent (by rw [List.append_nil]; exact stars_mem hm)).tl⟩ : RMs w0 (ol 78 ma mc ms :: stars oM ms :: oN b (ol 3 xa xc W :: .hb b10 39 a.cells :: ol 78 la lc ls :: stars oM ls :: oN a (ol 3 wa wc W :: .hb b7 39 q.cells :: .hb b5 39 n.cells :: B.ck :: H))) ma mc ms).tl
  refine sx ?_
  refine s_callV rfl (nsameM_s (xs := ls) (ys := ms) rl rm_) ?_
  rw [decide_eq_true hlm]
  clear rl rm_
  refine sx ?_
  refine s_loop (fun i : Nat => [(0, .pointer (some ⟨B.k, 0, none⟩)), (9, .slice wa W.length wc), (10, .pointer (some ⟨b10, 0, none⟩)), (11, .slice la ls.length lc), (13, .slice xa W.length xc), (19, .int .i64 i)]) (fun _ => ol 3 wa wc W :: ol 3 xa xc W :: .hb b10 39 a.cells :: oN a (ol 78 la lc ls :: stars oM ls :: B.ck :: H)) (fun i => i ≤ W.length) (fun i => W.length - i) 0 (Nat.zero_le _) ?_ (he := by
      refine Ent.cons (by exact rm) (Ent.cons (by exact rm) (Ent.cons (by exact rm) (Ent.cons (by exact rm) (Ent.cons (by exact rm) (Ent.cons (by exact rm) (Ent.cons (by exact rm) (Ent.cons (by exact rm) (Ent.cons (by exact rm) ?_))))))))
      exact Ent.tl (Ent.tl (Ent.tl (Ent.tl (Ent.tl (Ent.tl (Ent.tl (Ent.tl Ent.refl))))))))
  intro j hj
  refine sx ?_
  refine s_if rfl (fun t1 => ?_) (fun t1 => ?_)
  · obtain ⟨w, hw⟩ := get_lt W j (by omega)
    refine sx ?_; refine s_dr (.one true 0 (.one true 1 (.one true 2 (.one true 3 (.one true 4 (.one true 5 (.one true 6 (.one true 7 (.one true 8 .nil))))))))) mixed (by kernel_rfl) ?_; refine sx ?_
    exact s_again (j + 1) (by omega) (by omega)
  clear t1 hj
  refine s_ent (.hb B.k 32 B.cells :: ol 25 B.la B.lc B.ls :: ol 25 B.wa B.wc B.ws :: fam 5 B.ls :: fam 5 B.ws :: ol 34 B.ia B.ic B.is :: ol 27 B.ka B.kc B.ks :: ol 37 B.ma B.mc B.ms :: fam 3 B.is :: fam 25 B.ks :: fam 78 B.ms :: ol 3 wa wc W :: .hb b10 39 a.cells :: oN a (ol 78 la lc ls :: stars oM ls :: H)) ?_ ?_
  · refine Ent.trans (H' := B.ck :: ol 3 wa wc W :: .hb b10 39 a.cells :: oN a (ol 78 la lc ls :: stars oM ls :: H)) (by exact entq) ?_
    exact NB.open.trans (Ent.head (Ent.head (Ent.head (Ent.head (Ent.head (Ent.open Ent.refl))))))
  have hli := hB.leni
  refine sx ?_
  refine s_bsl [(⟨wa, wc, W⟩ : SIn)] rfl rfl fun b83 => ?_
  refine s_app ?_
  intro ia ic
  refine sx ?_
  obtain ⟨B2, hB2⟩ : ∃ B2 : NB, B2 = { B with ia := ia, ic := ic, is := B.is ++ [⟨wa, wc, W⟩] } := ⟨_, rfl⟩
  have ok2 : B2.Ok (cnt + 1) := by
    subst hB2
    refine ⟨hB.same, by have := hB.len; show B.ls.length ≤ _; omega, by simp only [List.length_append, List.length_cons, List.length_nil]; omega, by have := hB.lenk; show B.ks.length ≤ _; omega, by have := hB.lenm; show B.ms.length ≤ _; omega, hB.small, fun f hf => ?_, hB.smallk, hB.smallm⟩
    simp only [List.mem_append, List.mem_singleton] at hf
    rcases hf with hf | rfl
    · exact hB.smalli f hf
    · show W.length ≤ _; omega
  have k2 : B2.k = B.k := by subst hB2; rfl
  refine s_entL (.hb b10 39 a.cells :: oN a (B2.ck :: ol 78 la lc ls :: stars oM ls :: H)) ?_ ?_
  · refine Ent.trans (H' := B2.ck :: .hb b10 39 a.cells :: oN a (ol 78 la lc ls :: stars oM ls :: H)) ?_ (by exact entq)
    subst hB2
    refine Ent.trans ?_ NB.shut
    refine Ent.cons (by exact rm) (Ent.cons (by exact rm) (Ent.cons (by exact rm) (Ent.cons (by exact rm) (Ent.cons (by exact rm) ?_))))
    refine Ent.star ?_
    refine Ent.cons (by exact rm) (Ent.cons (by exact rm) (Ent.cons (by exact rm) ?_))
    refine Ent.famS (by exact rm) (by exact rm) ?_
    exact ent
  rw [← k2]
  have y1 := la1.ps
  have y2 := la1.ks
  have y3 := la1.ms
  have y4 : ls.length ≤ 4294967296 := la2.ms
  refine s_call rfl ((nnode_s (q := a) (H := .hb b10 39 a.cells :: ol 78 la lc ls :: stars oM ls :: H) ok2 (by omega) y1 y2 y3 la1.kl la1.ml).ent (by exact entq)) ?_
  rintro _ _ ⟨B3, rfl, k3, ok3⟩
  refine ⟨chk_seq, ?_⟩
  refine sx ?_
  rw [← k3]
  refine s_call rfl ((nmessages_s (a := la) (c := lc) (ms := ls) (H := .hb b10 39 a.cells :: H) ok3 (by omega) y4 la2.ml).ent (by exact entq)) ?_
  rintro _ _ ⟨B4, rfl, k4, ok4⟩
  refine ⟨chk_seq, ?_⟩
  refine sx ?_
  exact s_ret1 rfl rfl ⟨rfl, B4, rfl, by omega, ok4.mono (by omega)⟩ (by exact ent)
end Go.Sx
