/- Part of a proof: Set, by the program and by the document. -/
import Derived.Test.YtbkaabjjmoaijaaCM6
namespace Go.Sx
open Go Go.Proofs
set_option maxRecDepth 10000
variable {w0 : World} {H : List Ck}

/-- An entry put in. -/
def setA (ps : Ps) (e : Bs × Bs) : Nat := if fndB ps e.1 = true then fndN ps e.1 + 1 else fndN ps e.1
def setL (ps : Ps) (e : Bs × Bs) : Ps := ps.take (fndN ps e.1) ++ [e] ++ ps.drop (setA ps e)
abbrev SetR (T U : TypeId) (H : List Ck) (ps : Ps) : Value → List Ck → Prop := fun v H' => ∃ a c fs, v = .slice a (fs : List KV).length c ∧ fs.map KV.p = ps ∧ H' = oE T U a c fs :: H
theorem setA_le {ps : Ps} (h : Rise ps) (e : Bs × Bs) : setA ps e ≤ ps.length := by
  have h1 := fndN_le ps e.1
  unfold setA
  split
  · rename_i hb
    rcases Nat.lt_or_eq_of_le h1 with h2 | h2
    · exact h2
    · rw [fndB_end h h2] at hb; cases hb
  · exact h1

theorem lset_s {a : Option Addr} {c : Nat} {es : List KV} {e : KV} (he : REn w0 H a c es) (hk : RBy w0 H e.ka e.kc e.k) (hv : RBy w0 H e.va e.vc e.v) (hr : Rise (es.map KV.p)) (hS : Small (es.map KV.p)) (hl : e.k.length + e.v.length ≤ 140737488355328) :
    FnS Try.prog w0 H 34 #[.slice a es.length c, .agg e.cells.toArray] (SetR 47 5 H (setL (es.map KV.p) e.p)) := by
  refine fns_enter Try.func34 rfl rfl rfl ?_
  have hwl := wt_len (es.map KV.p)
  simp only [List.length_map, Small] at hwl hS
  have hL : (es.map KV.p).length = es.length := by simp
  have hn := fndN_le (es.map KV.p) e.k
  have hA := setA_le hr e.p
  rw [hL] at hn hA
  have hAn : fndN (es.map KV.p) e.k ≤ setA (es.map KV.p) e.p := by
    unfold setA
    split
    · exact Nat.le_succ _
    · exact Nat.le_refl _
  refine s_kn (Kn.en he) fun l1 => ?_
  simp only [maxLen] at l1
  refine sx ?_
  refine s_boxA rfl fun b => ?_
  refine sx ?_
  refine s_callV rfl (lfind_s (by exact ren) (by exact rby) hr hS) ?_
  refine sx ?_
  refine s_rw (t := 21) rfl (ci (by omega : _ = ((es.length + 1 : Nat) : Int))) ?_
  refine s_make0 (α := KV) rfl rfl (by omega) fun a7 => ?_
  refine sx ?_
  refine s_loop (fun (i : Nat × Option Addr × Nat × List KV) => [(0, .slice a es.length c), (3, .pointer (some ⟨b, 0, none⟩)), (5, .int .i64 (fndN (es.map KV.p) e.k)), (6, .bool (fndB (es.map KV.p) e.k)), (7, .slice i.2.1 i.2.2.2.length i.2.2.1), (25, .slice a (fndN (es.map KV.p) e.k) c), (26, .int .i64 (fndN (es.map KV.p) e.k)), (27, .int .i64 i.1)])
    (fun i => ol 47 i.2.1 i.2.2.1 i.2.2.2 :: .star (oKV 5 i.2.2.2) :: .hb b 47 e.cells :: H)
    (fun i => i.1 ≤ fndN (es.map KV.p) e.k ∧ i.2.2.2.map KV.p = (es.map KV.p).take i.1) (fun i => es.length - i.1) (0, some a7, es.length + 1, []) ⟨Nat.zero_le _, rfl⟩ ?_
  rintro ⟨k, a2, c2, fs⟩ ⟨hki, hf⟩
  simp only at hki hf ⊢
  have hfl : fs.length = k := by rw [← List.length_map (f := KV.p), hf]; simp; omega
  refine sx ?_
  refine s_if rfl (fun t1 => ?_) (fun t1 => ?_)
  · obtain ⟨x, hke⟩ := get_lt es k (by omega)
    have hew := p_wt hke
    have hk1 := he.key (List.mem_of_getElem? hke)
    have hk2 := he.val (List.mem_of_getElem? hke)
    refine sx ?_
    refine s_alloc fun b8 => ?_
    refine sx ?_
    refine s_call rfl (lcopied_s (by exact rby) (by exact rby) (by omega)) ?_
    rintro _ _ ⟨e', rfl, he', rfl⟩
    refine ⟨chk_seq, ?_⟩
    refine s_bsl [e'] rfl rfl fun b9 => ?_
    refine s_app ?_
    intro a3 c3
    refine sx ?_
    refine s_again (k + 1, a3, c3, fs ++ [e']) ⟨by simp only; omega, ?_⟩ (by simp only; omega)
    rw [take_snoc' (map_get hke), ← hf]
    simp only [List.map_append, List.map_cons, List.map_nil, he']
    rfl
  obtain rfl : k = fndN (es.map KV.p) e.k := by omega
  refine sx ?_
  refine s_call rfl (lcopied_s (by exact rby) (by exact rby) hl) ?_
  rintro _ _ ⟨e', rfl, he', rfl⟩
  refine ⟨chk_seq, ?_⟩
  refine s_bsl [e'] rfl rfl fun b9 => ?_
  refine s_app ?_
  intro a3 c3
  refine sx ?_
  refine s_cut (ι := Unit) (fun _ => [(0, .slice a es.length c), (5, .int .i64 (setA (es.map KV.p) e.p)), (7, .slice a3 (fs ++ [e']).length c3)])
    (fun _ => ol 47 a3 c3 (fs ++ [e']) :: .star (oKV 5 (fs ++ [e'])) :: H) (fun _ => True) ?_ (fun _ _ => ?_)
  · refine s_cond rfl (fun t2 => ?_) (fun t2 => ?_)
    · have hs : setA (es.map KV.p) e.p = fndN (es.map KV.p) e.k + 1 := if_pos t2
      rw [hs]
      refine sx ?_
      exact s_mid () trivial
    · have hs : setA (es.map KV.p) e.p = fndN (es.map KV.p) e.k := if_neg (by rw [show fndB (es.map KV.p) e.p.1 = false from t2]; decide)
      rw [hs]
      refine sx ?_
      exact s_mid () trivial
  have hd : RSl w0 H (sl a c (setA (es.map KV.p) e.p) 2) (c - setA (es.map KV.p) e.p) (es.drop (setA (es.map KV.p) e.p)) := he.sl'.drop hA
  generalize hat : setA (es.map KV.p) e.p = at' at hd hA hAn
  refine sx ?_
  refine s_loop (fun (i : Nat × Option Addr × Nat × List KV) => [(7, .slice i.2.1 i.2.2.2.length i.2.2.1), (47, .slice (sl a c at' 2) (es.length - at') (c - at')), (48, .int .i64 ((es.length - at' : Nat) : Int)), (49, .int .i64 i.1)])
    (fun i => ol 47 i.2.1 i.2.2.1 i.2.2.2 :: .star (oKV 5 i.2.2.2) :: H)
    (fun i => i.1 ≤ es.length - at' ∧ i.2.2.2.map KV.p = (es.map KV.p).take (fndN (es.map KV.p) e.k) ++ [e.p] ++ ((es.map KV.p).drop at').take i.1) (fun i => es.length - i.1) (0, a3, c3, fs ++ [e']) ⟨Nat.zero_le _, by simp [hf, he']⟩ ?_
  rintro ⟨k, a4, c4, gs⟩ ⟨hki, hg⟩
  simp only at hki hg ⊢
  have hgl : gs.length ≤ es.length + 1 := by
    rw [← List.length_map (f := KV.p), hg]; simp; omega
  have hdl : (es.drop at').length = es.length - at' := by simp
  refine sx ?_
  refine s_if rfl (fun t1 => ?_) (fun t1 => ?_)
  · obtain ⟨x, hke⟩ := get_lt (es.drop at') k (by omega)
    have hke' : es[at' + k]? = some x := by rw [List.getElem?_drop] at hke; exact hke
    have hew := p_wt hke'
    have hk1 := he.key (List.mem_of_getElem? hke')
    have hk2 := he.val (List.mem_of_getElem? hke')
    refine sx ?_
    refine s_alloc fun b8 => ?_
    refine sx ?_
    refine s_call rfl (lcopied_s (by exact rby) (by exact rby) (by omega)) ?_
    rintro _ _ ⟨x', rfl, hx', rfl⟩
    refine ⟨chk_seq, ?_⟩
    refine s_bsl [x'] rfl rfl fun b9 => ?_
    refine s_app ?_
    intro a5 c5
    refine sx ?_
    refine s_again (k + 1, a5, c5, gs ++ [x']) ⟨by simp only; omega, ?_⟩ (by simp only; omega)
    have hm : ((es.map KV.p).drop at')[k]? = some x.p := by rw [List.getElem?_drop]; simp [hke']
    rw [take_snoc' hm, ← List.append_assoc, ← hg]
    simp only [List.map_append, List.map_cons, List.map_nil, hx']
  · obtain rfl : k = es.length - at' := by omega
    refine sx ?_
    refine s_ret1 rfl rfl ⟨a4, c4, gs, rfl, ?_, rfl⟩
    rw [hg, List.take_of_length_le (l := (es.map KV.p).drop at') (by simp), setL, hat]
    rfl

/-- What the document's Set has laid down ahead of the i-th entry. -/
def rsP (ps : Ps) (e : Bs × Bs) (n : Nat) : Nat → Ps
  | 0 => []
  | i + 1 => rsP ps e n i ++ (if i = n then [e] else []) ++ (if (ps.getD i ([], [])).1 = e.1 then [] else [ps.getD i ([], [])])
theorem rsP_len (ps : Ps) (e : Bs × Bs) (n : Nat) : ∀ i, (rsP ps e n i).length ≤ i + (if n < i then 1 else 0)
  | 0 => by simp [rsP]
  | i + 1 => by
    have := rsP_len ps e n i
    simp only [rsP, List.length_append]
    split <;> split <;> (simp only [List.length_nil, List.length_cons]; split at this <;> split <;> omega)
theorem rsP_lo {ps : Ps} (h : Rise ps) {e : Bs × Bs} : ∀ i, i ≤ fndN ps e.1 → rsP ps e (fndN ps e.1) i = ps.take i
  | 0, _ => by simp [rsP]
  | i + 1, hi => by
    have hlt : i < ps.length := by have := fndN_le ps e.1; omega
    obtain ⟨x, hx⟩ := get_lt ps i hlt
    have hg : ps.getD i ([], []) = x := by simp [List.getD, hx]
    have hc := (fndN_lt h (k := e.1) hx).1 (by omega)
    have hne : ¬ x.1 = e.1 := fun g => by rw [g, (cmp_eq _ _).2 rfl] at hc; omega
    rw [rsP, rsP_lo h i (by omega), if_neg (by omega), hg, if_neg hne, take_snoc' hx]
    simp
theorem rsP_hi {ps : Ps} (h : Rise ps) {e : Bs × Bs} : ∀ i, fndN ps e.1 < i → i ≤ ps.length → rsP ps e (fndN ps e.1) i = ps.take (fndN ps e.1) ++ [e] ++ (ps.take i).drop (setA ps e)
  | 0, h0, _ => absurd h0 (by omega)
  | i + 1, h0, hi => by
    obtain ⟨x, hx⟩ := get_lt ps i (by omega)
    have hg : ps.getD i ([], []) = x := by simp [List.getD, hx]
    have hAn : setA ps e = fndN ps e.1 ∨ setA ps e = fndN ps e.1 + 1 := by unfold setA; split <;> simp
    rcases Nat.lt_or_eq_of_le (Nat.le_of_lt_succ h0) with h1 | h1
    · have hc := mt (fndN_lt h (k := e.1) hx).2 (by omega)
      obtain ⟨y, hy⟩ := get_lt ps (fndN ps e.1) (by omega)
      have hyx := rise_get h hy hx h1
      have hcy := mt (fndN_lt h (k := e.1) hy).2 (by omega)
      have hne : ¬ x.1 = e.1 := fun g => by rw [g] at hyx; exact hcy hyx
      rw [rsP, rsP_hi h i h1 (by omega), if_neg (by omega), hg, if_neg hne, take_snoc' hx, List.drop_append_of_le_length (by simp; omega)]
      simp
    · subst h1
      have hb := fndB_at h hx
      rw [rsP, rsP_lo h _ (Nat.le_refl _), if_pos rfl, hg]
      by_cases hxe : x.1 = e.1
      · have : setA ps e = fndN ps e.1 + 1 := if_pos (by rw [hb, hxe]; exact decide_eq_true ((cmp_eq _ _).2 rfl))
        rw [if_pos hxe, this, List.drop_of_length_le (List.length_take_le _ _)]
      · have : setA ps e = fndN ps e.1 := if_neg (by rw [hb]; simpa [cmp_eq] using hxe)
        rw [if_neg hxe, this, take_snoc' hx, List.drop_append_of_le_length (by simp; omega), List.drop_of_length_le (List.length_take_le _ _)]
        simp
/-- The document's Set in all, of keys that rise. -/
theorem rsP_all {ps : Ps} (h : Rise ps) (e : Bs × Bs) : rsP ps e (fndN ps e.1) ps.length ++ (if fndN ps e.1 = ps.length then [e] else []) = setL ps e := by
  have h1 := fndN_le ps e.1
  rcases Nat.lt_or_eq_of_le h1 with h2 | h2
  · rw [rsP_hi h ps.length h2 (Nat.le_refl _), if_neg (by omega), List.take_length, setL]
    simp
  · have h3 := rsP_lo h (e := e) ps.length (by omega)
    have h4 : setA ps e = ps.length := by unfold setA; rw [fndB_end h h2, if_neg (by decide), h2]
    rw [h3, if_pos h2, setL, h4, h2]
    simp
theorem rset_s {a : Option Addr} {c : Nat} {es : List KV} {e : KV} (he : REn w0 H a c es) (hk : RBy w0 H e.ka e.kc e.k) (hv : RBy w0 H e.va e.vc e.v) (hr : Rise (es.map KV.p)) (hS : Small (es.map KV.p)) (hl : e.k.length + e.v.length ≤ 140737488355328) :
    FnS Try.prog w0 H 66 #[.slice a es.length c, .agg e.cells.toArray] (SetR 47 5 H (setL (es.map KV.p) e.p)) := by
  refine fns_enter Try.func66 rfl rfl rfl ?_
  have hwl := wt_len (es.map KV.p)
  simp only [List.length_map, Small] at hwl hS
  have hL : (es.map KV.p).length = es.length := by simp
  have hn := fndN_le (es.map KV.p) e.k
  rw [hL] at hn
  refine sx ?_
  refine s_boxA rfl fun b => ?_
  refine sx ?_
  refine s_callV rfl (rfind_s (by exact ren) (by exact rby)) ?_
  refine sx ?_
  refine s_loop (fun (i : Nat × Option Addr × Nat × List KV) => [(0, .slice a es.length c), (3, .pointer (some ⟨b, 0, none⟩)), (5, .int .i64 (fndN (es.map KV.p) e.k)), (7, .slice i.2.1 i.2.2.2.length i.2.2.1), (8, .int .i64 i.1)])
    (fun i => ol 47 i.2.1 i.2.2.1 i.2.2.2 :: .star (oKV 5 i.2.2.2) :: .hb b 47 e.cells :: H)
    (fun i => i.1 ≤ es.length ∧ i.2.2.2.map KV.p = rsP (es.map KV.p) e.p (fndN (es.map KV.p) e.k) i.1) (fun i => es.length - i.1) (0, none, 0, []) ⟨Nat.zero_le _, rfl⟩ ?_
  rintro ⟨k, a2, c2, fs⟩ ⟨hki, hf⟩
  simp only at hki hf ⊢
  have hfl : fs.length ≤ k + 1 := by
    have := rsP_len (es.map KV.p) e.p (fndN (es.map KV.p) e.k) k
    rw [← List.length_map (f := KV.p), hf]
    split at this <;> omega
  refine sx ?_
  refine s_if rfl (fun t1 => ?_) (fun t1 => ?_)
  · obtain ⟨x, hke⟩ := get_lt es k (by omega)
    have hew := p_wt hke
    have hk1 := he.key (List.mem_of_getElem? hke)
    have hk2 := he.val (List.mem_of_getElem? hke)
    have hgd : (es.map KV.p).getD k ([], []) = x.p := by simp [List.getD, hke]
    have hrs : rsP (es.map KV.p) e.p (fndN (es.map KV.p) e.k) (k + 1) = rsP (es.map KV.p) e.p (fndN (es.map KV.p) e.k) k ++ (if k = fndN (es.map KV.p) e.k then [e.p] else []) ++ (if x.k = e.k then [] else [x.p]) := by
      rw [rsP, hgd]
      rfl
    refine sx ?_
    refine s_cut (ι := Option Addr × Nat × List KV) (fun i => [(0, .slice a es.length c), (3, .pointer (some ⟨b, 0, none⟩)), (5, .int .i64 (fndN (es.map KV.p) e.k)), (7, .slice i.1 i.2.2.length i.2.1), (8, .int .i64 k)])
      (fun i => ol 47 i.1 i.2.1 i.2.2 :: .star (oKV 5 i.2.2) :: .hb b 47 e.cells :: H) (fun i => i.2.2.map KV.p = fs.map KV.p ++ (if k = fndN (es.map KV.p) e.k then [e.p] else [])) ?_ ?_
    · refine s_if rfl (fun t2 => ?_) (fun t2 => ?_)
      · refine sx ?_
        refine s_call rfl (rcopy_s (by exact rby) (by exact rby) hl) ?_
        rintro _ _ ⟨e', rfl, he', rfl⟩
        refine ⟨chk_seq, ?_⟩
        refine s_bsl [e'] rfl rfl fun b9 => ?_
        refine s_app ?_
        intro a3 c3
        refine sx ?_
        refine s_mid (a3, c3, fs ++ [e']) ?_
        rw [if_pos (by omega)]
        simp [he']
      · refine sx ?_
        refine s_mid (a2, c2, fs) ?_
        rw [if_neg (by omega)]
        simp
    rintro ⟨a4, c4, gs⟩ hg
    simp only at hg ⊢
    have hgl : gs.length ≤ k + 2 := by
      have := congrArg List.length hg
      simp only [List.length_map, List.length_append] at this
      split at this <;> simp at this <;> omega
    refine sx ?_; refine s_dr (.one true 0 (.one true 1 (.one true 2 (.one true 3 (.one true 4 (.one true 5 (.one true 6 (.one true 7 (.one true 8 (.one true 9 .nil)))))))))) mixed (by kernel_rfl) ?_; refine sx ?_
    refine s_ifn rfl (fun t2 => ?_) (fun t2 => ?_)
    · refine sx ?_
      refine s_call rfl (rcopy_s (by exact rby) (by exact rby) (by omega)) ?_
      rintro _ _ ⟨x', rfl, hx', rfl⟩
      refine ⟨chk_seq, ?_⟩
      refine s_bsl [x'] rfl rfl fun b9 => ?_
      refine s_app ?_
      intro a5 c5
      refine sx ?_
      refine s_again (k + 1, a5, c5, gs ++ [x']) ⟨by simp only; omega, ?_⟩ (by simp only; omega)
      rw [hrs, ← hf, ← hg, if_neg t2]
      simp [hx']
    · refine sx ?_
      refine s_again (k + 1, a4, c4, gs) ⟨by simp only; omega, ?_⟩ (by simp only; omega)
      rw [hrs, ← hf, ← hg, if_pos t2, List.append_nil]
  · obtain rfl : k = es.length := by omega
    have hall := rsP_all hr e.p
    rw [hL, show fndN (es.map KV.p) e.p.1 = fndN (es.map KV.p) e.k from rfl, ← hf] at hall
    refine sx ?_
    refine s_cut (ι := Option Addr × Nat × List KV) (fun i => [(7, .slice i.1 i.2.2.length i.2.1)])
      (fun i => ol 47 i.1 i.2.1 i.2.2 :: .star (oKV 5 i.2.2) :: H) (fun i => i.2.2.map KV.p = setL (es.map KV.p) e.p) ?_ ?_
    · refine s_if rfl (fun t2 => ?_) (fun t2 => ?_)
      · rw [if_pos (by omega)] at hall
        refine sx ?_
        refine s_call rfl (rcopy_s (by exact rby) (by exact rby) hl) ?_
        rintro _ _ ⟨e', rfl, he', rfl⟩
        refine ⟨chk_seq, ?_⟩
        refine s_bsl [e'] rfl rfl fun b9 => ?_
        refine s_app ?_
        intro a3 c3
        refine sx ?_
        refine s_mid (a3, c3, fs ++ [e']) ?_
        rw [← hall]
        simp [he']
      · rw [if_neg (by omega)] at hall
        refine sx ?_
        refine s_mid (a2, c2, fs) ?_
        rw [← hall]
        simp
    rintro ⟨a4, c4, gs⟩ hg
    simp only at hg ⊢
    refine sx ?_
    exact s_ret1 rfl rfl ⟨a4, c4, gs, rfl, hg, rfl⟩
end Go.Sx
