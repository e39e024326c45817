/- Part of a proof: the law LeafMap, walked. -/
import Derived.Test.YtbkaabjjmoaijaaCM8
namespace Go.Sx
open Go Go.Proofs
set_option maxRecDepth 10000
variable {w0 : World} {H : List Ck}

theorem REn.sub {a a' : Option Addr} {c c' : Nat} {es fs : List KV} (h : RSl w0 H a c fs) (he : REn w0 H a' c' es) (hs : ∀ e, e ∈ fs → e ∈ es) : REn w0 H a c fs :=
  REn.mk h fun e hm => ⟨he.key (hs e hm), he.val (hs e hm)⟩
theorem getLast_idx {α : Type} {l : List α} {f : α} (h : l.getLast? = some f) : l[l.length - 1]? = some f := by rw [← List.getLast?_eq_getElem?]; exact h

theorem risen_s {a : Option Addr} {c : Nat} {es : List KV} (he : REn w0 H a c es) (hl : es.length ≤ 8589934592) :
    FnS Try.prog w0 H 32 #[.slice a es.length c] (fun v H' => ∃ a c, v = .slice a (risG KV.k es).length c ∧ H' = ol 47 a c (risG KV.k es) :: H) := by
  refine fns_enter Try.func32 rfl rfl rfl ?_
  refine sx ?_
  refine s_loop (fun (i : Nat × Option Addr × Nat × List KV) => [(0, .slice a es.length c), (3, .slice i.2.1 i.2.2.2.length i.2.2.1), (4, .int .i64 i.1)]) (fun i => ol 47 i.2.1 i.2.2.1 i.2.2.2 :: H)
    (fun i => i.1 ≤ es.length ∧ i.2.2.2 = risG KV.k (es.take i.1)) (fun i => es.length - i.1) (0, none, 0, []) ⟨Nat.zero_le _, rfl⟩ ?_
  rintro ⟨k, a2, c2, fs⟩ ⟨hk, hf⟩
  simp only at hk hf ⊢
  have hfl : fs.length ≤ k := by rw [hf]; exact risG_len _ _ _
  refine sx ?_
  refine s_if rfl (fun t1 => ?_) (fun t1 => ?_)
  · obtain ⟨e, hke⟩ := get_lt es k (by omega)
    have hk1 := he.key (List.mem_of_getElem? hke)
    have hg := risG_snoc KV.k hke
    rw [← hf] at hg
    refine sx ?_
    refine sx ?_; refine s_dr (.one true 0 (.one true 1 (.one true 2 (.one true 3 (.one true 4 (.one true 5 (.one true 6 (.one true 7 (.one true 8 (.one true 9 (.one true 10 (.one true 11 (.one true 12 (.one true 13 (.one true 14 (.one true 15 (.one true 16 (.one true 17 (.one true 18 (.one true 19 .nil)))))))))))))))))))) mixed (by kernel_rfl) ?_; refine sx ?_
    refine s_lif rfl (fun t2 => ?_) (fun t2 => ?_)
    · have h0 : fs = [] := List.eq_nil_of_length_eq_zero (by omega)
      have hs : risS KV.k fs e = fs ++ [e] := by rw [h0]; rfl
      refine sx ?_
      refine s_bsl [e] rfl rfl fun b9 => ?_
      refine s_app ?_
      intro a3 c3
      refine sx ?_
      refine s_again (k + 1, a3, c3, fs ++ [e]) ⟨by simp only; omega, by simp only; rw [hg, hs]⟩ (by simp only; omega)
    · obtain ⟨f, hlast⟩ : ∃ f, fs.getLast? = some f := by
        cases h : fs.getLast? with
        | none => rw [List.getLast?_eq_none_iff] at h; subst h; simp at t2
        | some f => exact ⟨f, rfl⟩
      have hfi := getLast_idx hlast
      have hm : f ∈ es := by
        have := List.mem_of_getElem? hfi
        rw [hf] at this
        rcases risG_mem KV.k _ _ this with h | h
        · cases h
        · exact List.mem_of_mem_take h
      have hk2 := he.key hm
      have hs : risS KV.k fs e = if 0 < cmp e.k f.k then fs ++ [e] else fs := by unfold risS; rw [hlast]
      refine sx ?_
      refine s_if rfl (fun t3 => ?_) (fun t3 => ?_)
      · rw [if_pos t3] at hs
        refine sx ?_
        refine s_bsl [e] rfl rfl fun b9 => ?_
        refine s_app ?_
        intro a3 c3
        refine sx ?_
        refine s_again (k + 1, a3, c3, fs ++ [e]) ⟨by simp only; omega, by simp only; rw [hg, hs]⟩ (by simp only; omega)
      · rw [if_neg t3] at hs
        refine sx ?_
        refine s_again (k + 1, a2, c2, fs) ⟨by simp only; omega, by simp only; rw [hg, hs]⟩ (by simp only; omega)
  · obtain rfl : k = es.length := by omega
    rw [List.take_of_length_le (Nat.le_refl _)] at hf
    subst hf
    refine sx ?_
    exact s_ret1 rfl rfl ⟨a2, c2, rfl, rfl⟩

theorem value_s {a a' : Option Addr} {c c' : Nat} {es : List KV} {xs : Bs} (he : REn w0 H a c es) (hx : RBy w0 H a' c' xs) :
    FnV Try.prog w0 H 35 #[.slice a es.length c, .slice a' xs.length c'] (.tuple #[str ((valL (es.map KV.p) xs).getD []), .bool (valL (es.map KV.p) xs).isSome]) := by
  refine fns_enter Try.func35 rfl rfl rfl ?_
  refine s_kn (Kn.en he) fun l1 => ?_
  simp only [maxLen] at l1
  refine sx ?_
  refine s_loop (fun i : Nat => [(0, .slice a es.length c), (1, .slice a' xs.length c'), (6, .int .i64 i)]) (fun _ => H) (fun i => i ≤ es.length ∧ valL ((es.map KV.p).take i) xs = none) (fun i => es.length - i) 0 ⟨Nat.zero_le _, rfl⟩ ?_
  rintro i ⟨hi, hn⟩
  refine sx ?_
  refine s_if rfl (fun t1 => ?_) (fun t1 => ?_)
  · obtain ⟨e, hke⟩ := get_lt es i (by omega)
    have hk1 := he.key (List.mem_of_getElem? hke)
    have hk2 := he.val (List.mem_of_getElem? hke)
    have hv := valL_take (k := xs) (map_get hke)
    rw [hn] at hv
    refine sx ?_
    refine sx ?_; refine s_dr (.one true 0 (.one true 1 (.one true 2 (.one true 3 (.one true 4 (.one true 5 (.one true 6 (.one true 7 (.one true 8 .nil))))))))) mixed (by kernel_rfl) ?_; refine sx ?_
    refine s_if rfl (fun t2 => ?_) (fun t2 => ?_)
    · have ha := valL_at (map_get hke) hn t2
      refine sx ?_
      refine s_ret2 rfl rfl rfl ⟨?_, rfl⟩
      rw [ha]
      rfl
    · rw [if_neg t2] at hv
      refine sx ?_
      exact s_again (i + 1) ⟨by omega, hv⟩ (by omega)
  · rw [List.take_of_length_le (by simp; omega)] at hn
    refine sx ?_
    refine s_ret2 rfl rfl rfl ⟨?_, rfl⟩
    rw [hn]
    rfl

theorem valL_some {ps : Ps} {k v : Bs} (h : valL ps k = some v) : ∃ j : Nat, ps[j]? = some (k, v) := by
  induction ps with
  | nil => cases h
  | cons x r ih =>
    unfold valL at h
    by_cases hk : x.1 = k
    · rw [if_pos hk] at h
      cases h
      exact ⟨0, by rw [← hk]; rfl⟩
    · rw [if_neg hk] at h
      obtain ⟨j, hj⟩ := ih h
      exact ⟨j + 1, by simpa using hj⟩
theorem cmp_irr (k : Bs) : ¬ cmp k k < 0 := by
  have : cmp k k = 0 := (cmp_eq k k).2 rfl
  omega
theorem find_some {ps : Ps} (hr : Rise ps) {k v : Bs} (h : valL ps k = some v) : ps[fndN ps k]? = some (k, v) := by
  obtain ⟨j, hj⟩ := valL_some h
  have h1 : ¬ j < fndN ps k := fun g => cmp_irr k ((fndN_lt hr hj).1 g)
  have hjl := (List.getElem?_eq_some_iff.1 hj).1
  obtain ⟨y, hy⟩ := get_lt ps (fndN ps k) (by omega)
  by_cases he : fndN ps k < j
  · have h2 : cmp y.1 k < 0 := by
      have h3 := List.pairwise_iff_getElem.1 hr (fndN ps k) j (by omega) hjl he
      rw [(List.getElem?_eq_some_iff.1 hj).2, (List.getElem?_eq_some_iff.1 hy).2] at h3
      exact h3
    have := (fndN_lt hr hy).2 h2
    omega
  · rwa [show fndN ps k = j by omega]
theorem map_get' {es : List KV} {i : Nat} {p : Bs × Bs} (h : (es.map KV.p)[i]? = some p) : ∃ e, es[i]? = some e ∧ e.p = p := by
  rw [List.getElem?_map] at h
  exact Option.map_eq_some_iff.1 h

theorem SB.cel (p : SB) : Cel.f p = [.slice p.a p.xs.length p.c] := rfl
/-- What LeafMap asks of one key. -/
theorem mapA {ps : Ps} (h : Rise ps) (e : Bs × Bs) (lo hi : Bs) (all : Bool) (k : Bs) : valL (cutL lo hi all (setL ps e)) k = if hasR lo hi all k = true then none else if k = e.1 then some e.2 else valL ps k := by
  rw [valL_cutL, valL_setL h]
set_option maxHeartbeats 1000000 in
theorem map_s {sz at' : Int} {la xa : Option Addr} {lc xc : Nat} {es : List KV} {e : KV} {r : Rg} {v8 v9 : Value} {xs : Bs} (he : REn w0 H la lc es) (hz : ∀ e, e ∈ es → e.k.length ≤ 140737488351232 ∧ e.v.length ≤ 140737488351232)
    (hek : RBy w0 H e.ka e.kc e.k) (hev : RBy w0 H e.va e.vc e.v) (hez : e.k.length ≤ 140737488351232 ∧ e.v.length ≤ 140737488351232) (hr1 : RBy w0 H r.la r.lc r.lo) (hr2 : RBy w0 H r.ha r.hc r.hi) (hx : RBy w0 H xa xc xs) :
    FnV Try.prog w0 H 10 #[.agg #[.int .i64 sz, .int .i64 at', .slice la es.length lc, .slice e.ka e.k.length e.kc, .slice e.va e.v.length e.vc, .slice r.la r.lo.length r.lc, .slice r.ha r.hi.length r.hc, .bool r.all, v8, v9, .slice xa xs.length xc]] (.bool true) := by
  refine fns_enter Try.func10 rfl rfl rfl ?_
  refine sx ?_
  refine s_boxA rfl fun b1 => ?_
  refine sx ?_
  refine s_callV rfl shown_s ?_
  refine sx ?_
  refine s_alloc fun b4 => ?_
  refine sx ?_
  refine s_alloc fun b5 => ?_
  refine sx ?_
  have hz1 : ∀ x, x ∈ [e] → x.k.length ≤ 140737488351232 ∧ x.v.length ≤ 140737488351232 := by simpa using hez
  have hup : ∀ fs : List KV, (∀ x, x ∈ fs → x.k.length ≤ 140737488351232 ∧ x.v.length ≤ 140737488351232) → wB 0 (fs.map KV.p) ≤ 400000000000000 := fun fs hf => wB_up (by decide) _ 0 (fun x hx => by
    obtain ⟨y, hy, rfl⟩ := List.mem_map.1 hx
    exact hf y hy) (by decide)
  have u1 := hup es hz
  have u2 := hup [e] hz1
  refine s_cut (ι := Unit) (fun _ => [(1, .pointer (some ⟨b1, 0, none⟩)), (3, .bool true), (4, .pointer (some ⟨b4, 0, none⟩)), (5, .pointer (some ⟨b5, 0, none⟩)), (6, .slice xa xs.length xc), (35, .bool (decide ((2147483647 : Int) < ((wB 0 (es.map KV.p) : Nat) : Int) + ((wB 0 ([e].map KV.p) : Nat) : Int))))])
    (fun _ => .hb b5 49 r.cells :: .hb b4 47 e.cells :: .hb b1 51 [.int .i64 sz, .int .i64 at', .slice la es.length lc, .slice e.ka e.k.length e.kc, .slice e.va e.v.length e.vc, .slice r.la r.lo.length r.lc, .slice r.ha r.hi.length r.hc, .bool r.all, v8, v9, .slice xa xs.length xc] :: H) (fun _ => True) ?_ (fun _ _ => ?_)
  · refine sx ?_; refine s_dr (.one true 0 (.one true 1 (.one true 3 (.alt (.one false 2 (.one false 4 (.one false 5 (.one true 6 (.one true 7 .nil))))) (.one false 4 (.one false 2 (.one false 5 (.one true 6 (.one true 7 .nil))))))))) mixed (by kernel_rfl) ?_; refine sx ?_
    refine s_alt ?_ ?_
    · refine s_callV rfl (weight_s (by exact ren) hz) ?_
      refine s_bsl [e] rfl rfl fun b9 => ?_
      refine s_callV rfl (weight_s (es := [e]) (REn.mk (by exact rsl) (by intro x hx; simp only [List.mem_singleton] at hx; subst hx; exact ⟨rby, rby⟩)) hz1) ?_
      refine sx ?_
      exact s_mid () trivial
    · refine s_bsl [e] rfl rfl fun b9 => ?_
      refine s_callV rfl (weight_s (by exact ren) hz) ?_
      refine s_callV rfl (weight_s (es := [e]) (REn.mk (by exact rsl) (by intro x hx; simp only [List.mem_singleton] at hx; subst hx; exact ⟨rby, rby⟩)) hz1) ?_
      refine sx ?_
      exact s_mid () trivial
  refine sx ?_
  refine s_if rfl (fun hw => ?_) (fun hw => ?_)
  · refine sx ?_
    exact s_ret1 rfl rfl ⟨rfl, rfl⟩
  have hwt := (wB_le 0 (es.map KV.p)).1 (by omega)
  have hwe := (wB_le 0 ([e].map KV.p)).1 (by omega)
  simp only [List.map_cons, List.map_nil, wt, KV.p] at hwe
  have hwl := wt_len (es.map KV.p)
  rw [List.length_map] at hwl
  refine sx ?_
  refine s_call rfl (risen_s (by exact ren) (by omega)) ?_
  rintro _ _ ⟨al, cl, rfl, rfl⟩
  refine ⟨chk_seq, ?_⟩
  have hmap := risK_map es
  have hsub : ∀ x, x ∈ risG KV.k es → x ∈ es := fun x hx => (risG_mem KV.k es [] hx).resolve_left (by simp)
  have hrise : Rise ((risG KV.k es).map KV.p) := by rw [hmap]; exact rise_ris _
  have hwr : wt ((risG KV.k es).map KV.p) ≤ 2147483647 := by rw [hmap]; have := wt_ris (es.map KV.p); omega
  generalize risG KV.k es = ls at hmap hsub hrise hwr
  have hll := wt_len (ls.map KV.p)
  rw [List.length_map] at hll
  refine sx ?_
  refine s_call rfl (lset_s (e := e) (REn.sub (by exact rsl) (by exact ren) hsub) (by exact rby) (by exact rby) hrise (by simp only [Small]; omega) (by omega)) ?_
  rintro _ _ ⟨a2, c2, ss, rfl, has, rfl⟩
  refine ⟨chk_seq, ?_⟩
  have hra : Rise (ss.map KV.p) := by rw [has]; exact rise_setL hrise _
  have hwa : wt (ss.map KV.p) ≤ 8589934592 := by rw [has]; have := wt_setL (ls.map KV.p) e.p; simp only [KV.p] at this ⊢; omega
  have hal := wt_len (ss.map KV.p)
  rw [List.length_map] at hal
  refine sx ?_
  refine s_call rfl (lcut_s (r := r) (by exact ren) (by exact rby) (by exact rby) (by simp only [Small]; omega)) ?_
  rintro _ _ ⟨a3, c3, bs, rfl, hbs, rfl⟩
  refine ⟨chk_seq, ?_⟩
  have hrb : Rise (bs.map KV.p) := by rw [hbs]; exact rise_cutL hra _ _ _
  have hbl : bs.length ≤ ss.length := by
    have := congrArg List.length hbs
    simp only [List.length_map] at this
    rw [this, cutL]
    exact Nat.le_trans (List.length_filter_le _ _) (by simp)
  refine sx ?_
  refine s_bsl [(⟨xa, xc, xs⟩ : SB), ⟨e.ka, e.kc, e.k⟩] rfl rfl fun b9 => ?_
  refine sx ?_
  refine s_loop (fun (i : Nat × Option Addr × Nat × List SB) => [(3, .bool true), (4, .pointer (some ⟨b4, 0, none⟩)), (5, .pointer (some ⟨b5, 0, none⟩)), (7, .slice al ls.length cl), (8, .slice a2 ss.length c2), (9, .slice a3 bs.length c3), (11, .slice i.2.1 i.2.2.2.length i.2.2.1), (12, .int .i64 i.1)])
    (fun i => ol 39 i.2.1 i.2.2.1 i.2.2.2 :: oe a3 c3 bs :: oe a2 c2 ss :: ol 47 al cl ls :: .hb b5 49 r.cells :: .hb b4 47 e.cells :: H)
    (fun i => i.1 ≤ ls.length ∧ i.2.2.2.length = i.1 + 2 ∧ ∀ p, p ∈ i.2.2.2 → RBy w0 H p.a p.c p.xs) (fun i => ls.length - i.1) (0, some ⟨b9, 0, none⟩, 2, [⟨xa, xc, xs⟩, ⟨e.ka, e.kc, e.k⟩]) ⟨Nat.zero_le _, rfl, by intro p hp; simp only [List.mem_cons, List.not_mem_nil, or_false] at hp; rcases hp with rfl | rfl; exact hx; exact hek⟩ ?_
  rintro ⟨k, ak, ck, ks⟩ ⟨hk, hkl, hks⟩
  simp only at hk hkl hks ⊢
  refine sx ?_
  refine s_if rfl (fun t1 => ?_) (fun t1 => ?_)
  · obtain ⟨x, hkx⟩ := get_lt ls k (by omega)
    have hxk := he.key (hsub x (List.mem_of_getElem? hkx))
    refine sx ?_
    refine s_bsl [(⟨x.ka, x.kc, x.k⟩ : SB)] rfl rfl fun b10 => ?_
    refine s_app ?_
    intro a5 c5
    refine sx ?_
    refine s_again (k + 1, a5, c5, ks ++ [⟨x.ka, x.kc, x.k⟩]) ⟨by simp only; omega, by simp; omega, ?_⟩ (by simp only; omega)
    intro p hp
    simp only [List.mem_append, List.mem_singleton] at hp
    rcases hp with hp | rfl
    · exact hks p hp
    · exact hxk
  refine sx ?_
  refine s_loop (fun k : Nat => [(3, .bool true), (4, .pointer (some ⟨b4, 0, none⟩)), (5, .pointer (some ⟨b5, 0, none⟩)), (7, .slice al ls.length cl), (8, .slice a2 ss.length c2), (9, .slice a3 bs.length c3), (11, .slice ak ks.length ck), (13, .int .i64 k)])
    (fun _ => ol 39 ak ck ks :: oe a3 c3 bs :: oe a2 c2 ss :: ol 47 al cl ls :: .hb b5 49 r.cells :: .hb b4 47 e.cells :: H)
    (fun k => k ≤ ks.length) (fun k => ks.length - k) 0 (Nat.zero_le _) ?_
  intro m hm
  refine sx ?_
  refine s_if rfl (fun t2 => ?_) (fun t2 => ?_)
  · obtain ⟨p, hmp⟩ := get_lt ks m (by omega)
    have hpk := hks p (List.mem_of_getElem? hmp)
    refine sx ?_
    refine s_callV rfl (value_s (xs := p.xs) (REn.sub (by exact rsl) (by exact ren) hsub) (by exact rby)) ?_
    have hva := valL_setL hrise e.p p.xs
    rw [← has] at hva
    obtain ⟨o, ho⟩ : ∃ o, o = valL (ss.map KV.p) p.xs := ⟨_, rfl⟩
    refine sx ?_
    refine sx ?_; refine s_dr (.one true 0 (.one true 1 (.one true 2 (.one true 3 (.one true 4 (.one true 5 (.one true 6 (.one true 7 (.one true 8 .nil))))))))) mixed (by kernel_rfl) ?_; refine sx ?_
    refine s_cut (ι := Unit) (fun _ => [(3, .bool true), (4, .pointer (some ⟨b4, 0, none⟩)), (5, .pointer (some ⟨b5, 0, none⟩)), (7, .slice al ls.length cl), (8, .slice a2 ss.length c2), (9, .slice a3 bs.length c3), (11, .slice ak ks.length ck), (13, .int .i64 m), (14, str (o.getD [])), (15, .bool o.isSome)]) (fun _ => ol 39 ak ck ks :: oe a3 c3 bs :: oe a2 c2 ss :: ol 47 al cl ls :: .hb b5 49 r.cells :: .hb b4 47 e.cells :: H) (fun _ => True) ?_ (fun _ _ => ?_)
    · refine s_if rfl (fun t3 => ?_) (fun t3 => ?_)
      · have : o = some e.v := by rw [ho, hva, if_pos (show p.xs = e.p.1 from t3)]; rfl
        subst this
        refine sx ?_
        exact s_mid () trivial
      · have : o = valL (ls.map KV.p) p.xs := by rw [ho, hva, if_neg (show ¬ p.xs = e.p.1 from t3)]
        subst this
        refine sx ?_
        exact s_mid () trivial
    have hfd : FnV Try.prog w0 (ol 39 ak ck ks :: oe a3 c3 bs :: oe a2 c2 ss :: ol 47 al cl ls :: .hb b5 49 r.cells :: .hb b4 47 e.cells :: H) 36 #[.slice a2 ss.length c2, .slice p.a p.xs.length p.c] (.tuple #[.int .i64 (fndN (ss.map KV.p) p.xs), .bool o.isSome]) := by
      have h := lfind_s (w0 := w0) (H := ol 39 ak ck ks :: oe a3 c3 bs :: oe a2 c2 ss :: ol 47 al cl ls :: .hb b5 49 r.cells :: .hb b4 47 e.cells :: H) (a := a2) (c := c2) (es := ss) (a' := p.a) (c' := p.c) (xs := p.xs) (by exact ren) (by exact rby) hra (by simp only [Small]; omega)
      rw [fndB_val, ← ho] at h
      exact h
    have hn := fndN_le (ss.map KV.p) p.xs
    rw [List.length_map] at hn
    refine s_seq ?_
    refine s_cut (ι := Unit) (fun _ => [(3, .bool true), (4, .pointer (some ⟨b4, 0, none⟩)), (5, .pointer (some ⟨b5, 0, none⟩)), (7, .slice al ls.length cl), (8, .slice a2 ss.length c2), (9, .slice a3 bs.length c3), (11, .slice ak ks.length ck), (13, .int .i64 m), (14, str (o.getD [])), (15, .bool o.isSome), (16, .int .i64 (fndN (ss.map KV.p) p.xs)), (17, .bool o.isSome)]) (fun _ => ol 39 ak ck ks :: oe a3 c3 bs :: oe a2 c2 ss :: ol 47 al cl ls :: .hb b5 49 r.cells :: .hb b4 47 e.cells :: H) (fun _ => True) ?_ (fun _ _ => ?_)
    · refine sx ?_
      refine s_callV rfl hfd ?_
      refine sx ?_
      exact s_mid () trivial
    refine s_seq ?_
    refine s_cut (ι := Unit) (fun _ => [(3, .bool true), (4, .pointer (some ⟨b4, 0, none⟩)), (5, .pointer (some ⟨b5, 0, none⟩)), (7, .slice al ls.length cl), (8, .slice a2 ss.length c2), (9, .slice a3 bs.length c3), (11, .slice ak ks.length ck), (13, .int .i64 m), (14, str (o.getD [])), (15, .bool o.isSome)]) (fun _ => ol 39 ak ck ks :: oe a3 c3 bs :: oe a2 c2 ss :: ol 47 al cl ls :: .hb b5 49 r.cells :: .hb b4 47 e.cells :: H) (fun _ => True) ?_ (fun _ _ => ?_)
    · rcases o with _ | v
      · refine sx ?_
        refine s_lif rfl (fun t => by omega) (fun _ => ?_)
        refine sx ?_
        exact s_mid () trivial
      · have hy := find_some hra ho.symm
        generalize fndN (ss.map KV.p) p.xs = N at hy hn ⊢
        obtain ⟨z, hz', hzp⟩ := map_get' hy
        have hyv : z.v = v := congrArg Prod.snd hzp
        have hNl := (List.getElem?_eq_some_iff.1 hz').1
        have hm := List.mem_of_getElem? hz'
        have hen : REn w0 (ol 39 ak ck ks :: oe a3 c3 bs :: oe a2 c2 ss :: ol 47 al cl ls :: .hb b5 49 r.cells :: .hb b4 47 e.cells :: H) a2 c2 ss := by exact ren
        have hzv := hen.val hm
        refine sx ?_
        refine s_lif rfl (fun t => by omega) (fun _ => ?_)
        refine sx ?_
        refine s_lif rfl (fun t => by omega) (fun _ => ?_)
        refine sx ?_
        refine s_ifn rfl (fun t => ?_) (fun t => ?_)
        · exact absurd hyv t
        refine sx ?_
        exact s_mid () trivial
    refine s_seq ?_
    refine s_cut (ι := Unit) (fun _ => [(3, .bool true), (4, .pointer (some ⟨b4, 0, none⟩)), (5, .pointer (some ⟨b5, 0, none⟩)), (7, .slice al ls.length cl), (8, .slice a2 ss.length c2), (9, .slice a3 bs.length c3), (11, .slice ak ks.length ck), (13, .int .i64 m), (14, str (o.getD [])), (15, .bool o.isSome), (18, .bool (hasR r.lo r.hi r.all p.xs))]) (fun _ => ol 39 ak ck ks :: oe a3 c3 bs :: oe a2 c2 ss :: ol 47 al cl ls :: .hb b5 49 r.cells :: .hb b4 47 e.cells :: H) (fun _ => True) ?_ (fun _ _ => ?_)
    · refine sx ?_; refine s_dr (.one true 0 (.one true 1 (.one true 2 (.one true 3 (.one true 4 (.one true 5 (.one true 6 (.one true 7 (.one true 8 (.one true 9 (.one true 10 (.one true 11 (.one true 12 (.one true 13 (.one true 14 (.one true 15 (.one true 16 (.one true 17 (.one true 18 (.one true 19 (.one true 20 (.one true 21 (.one true 22 (.one true 23 (.one true 24 .nil))))))))))))))))))))))))) mixed (by kernel_rfl) ?_; refine sx ?_
      refine s_lif rfl (fun t3 => ?_) (fun t3 => ?_)
      · refine sx ?_
        refine s_lsp rfl (fun t4 => ?_) (fun t4 => ?_)
        · have hh : hasR r.lo r.hi r.all p.xs = true := by simp [hasR, t3, t4]
          refine sx ?_
          rw [hh]
          exact s_mid () trivial
        · have hh : hasR r.lo r.hi r.all p.xs = decide (cmp p.xs r.hi < 0) := by simp [hasR, t3, t4]
          refine sx ?_
          rw [hh]
          exact s_mid () trivial
      · have hh : hasR r.lo r.hi r.all p.xs = false := by simp [hasR, t3]
        refine sx ?_
        rw [hh]
        exact s_mid () trivial
    have hvb := valL_cutL r.lo r.hi r.all (ss.map KV.p) p.xs
    rw [← hbs, ← ho] at hvb
    refine sx ?_
    refine s_callV rfl (value_s (es := bs) (xs := p.xs) (by exact ren) (by exact rby)) ?_
    rw [hvb]
    generalize hasR r.lo r.hi r.all p.xs = g
    have hgo : m + 1 ≤ ks.length := by omega
    rcases o with _ | v
    · cases g
      · refine sx ?_
        exact s_again (m + 1) hgo (by omega)
      · refine sx ?_
        exact s_again (m + 1) hgo (by omega)
    · cases g
      · refine sx ?_
        refine s_ifn rfl (fun t => ?_) (fun t => ?_)
        · exact absurd rfl t
        refine sx ?_
        exact s_again (m + 1) hgo (by omega)
      · refine sx ?_
        exact s_again (m + 1) hgo (by omega)
  have hre : ∀ fs : List KV, Rise (fs.map KV.p) → (risG KV.k fs).length = fs.length := fun fs h => by
    rw [← List.length_map (f := KV.p), risK_map, ris_rise h, List.length_map]
  refine sx ?_
  refine s_call rfl (risen_s (es := ss) (by exact ren) (by omega)) ?_
  rintro _ _ ⟨a6, c6, rfl, rfl⟩
  refine ⟨chk_seq, ?_⟩
  rw [hre ss hra]
  refine sx ?_
  refine s_call rfl (risen_s (es := bs) (by exact ren) (by omega)) ?_
  rintro _ _ ⟨a7, c7, rfl, rfl⟩
  refine ⟨chk_seq, ?_⟩
  rw [hre bs hrb]
  refine sx ?_
  exact s_ret1 rfl rfl ⟨rfl, rfl⟩
end Go.Sx
