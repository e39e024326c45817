/- Part of a proof: Cut, by the program and by the document. -/
import Derived.Test.YtbkaabjjmoaijaaCM1
namespace Go.Sx
open Go Go.Proofs
set_option maxRecDepth 10000
variable {w0 : World} {H : List Ck}

/-- The entries of no key of a range. -/
def cutL (lo hi : Bs) (all : Bool) (ps : Ps) : Ps := ps.filter fun e => !hasR lo hi all e.1
theorem cutL_snoc {lo hi : Bs} {all : Bool} {ps : Ps} {k : Nat} {e : Bs × Bs} (h : ps[k]? = some e) : cutL lo hi all (ps.take (k + 1)) = cutL lo hi all (ps.take k) ++ if hasR lo hi all e.1 = true then [] else [e] := by
  rw [take_snoc' h, cutL, cutL, List.filter_append]
  by_cases h : hasR lo hi all e.1 = true <;> simp [h]
theorem cutL_len (lo hi : Bs) (all : Bool) (ps : Ps) (k : Nat) : (cutL lo hi all (ps.take k)).length ≤ k := by
  have h1 := List.length_filter_le (fun e : Bs × Bs => !hasR lo hi all e.1) (ps.take k)
  have h2 := List.length_take_le k ps
  exact Nat.le_trans h1 h2
abbrev CutR (T U : TypeId) (H : List Ck) (n : Nat) (ps : Ps) (lo hi : Bs) (all : Bool) : Value → List Ck → Prop := fun v H' =>
  ∃ a c fs, v = .tuple #[.slice a (fs : List KV).length c, .int .i64 ((n : Int) - (fs.length : Int))] ∧ fs.map KV.p = cutL lo hi all ps ∧ H' = oE T U a c fs :: H

theorem lcut_s {a : Option Addr} {c : Nat} {es : List KV} {r : Rg} (he : REn w0 H a c es) (h1 : RBy w0 H r.la r.lc r.lo) (h2 : RBy w0 H r.ha r.hc r.hi) (hS : Small (es.map KV.p)) :
    FnS Try.prog w0 H 28 #[.slice a es.length c, .agg r.cells.toArray] (CutR 47 5 H es.length (es.map KV.p) r.lo r.hi r.all) := by
  refine fns_enter Try.func28 rfl rfl rfl ?_
  have hwl := wt_len (es.map KV.p)
  simp only [List.length_map, Small] at hwl hS
  refine sx ?_
  refine s_boxA rfl fun b => ?_
  refine sx ?_
  refine s_loop (fun (i : Nat × Option Addr × Nat × List KV) => [(0, .slice a es.length c), (3, .pointer (some ⟨b, 0, none⟩)), (6, .slice i.2.1 i.2.2.2.length i.2.2.1), (9, .slice a es.length c), (10, .int .i64 es.length), (11, .int .i64 i.1)])
    (fun i => ol 47 i.2.1 i.2.2.1 i.2.2.2 :: .star (oKV 5 i.2.2.2) :: .hb b 49 r.cells :: H)
    (fun i => i.1 ≤ es.length ∧ i.2.2.2.map KV.p = cutL r.lo r.hi r.all ((es.map KV.p).take i.1)) (fun i => es.length - i.1) (0, none, 0, []) ⟨Nat.zero_le _, rfl⟩ ?_
  rintro ⟨k, a2, c2, fs⟩ ⟨hk, hf⟩
  have hfl : fs.length ≤ k := by rw [← List.length_map (f := KV.p), hf]; exact cutL_len ..
  simp only at hk hf hfl ⊢
  refine sx ?_
  refine s_if rfl (fun hlt => ?_) (fun hge => ?_)
  · obtain ⟨e, hke⟩ := get_lt es k (by omega)
    have hew := p_wt hke
    have hcs := cutL_snoc (lo := r.lo) (hi := r.hi) (all := r.all) (map_get hke)
    have hk1 := he.key (List.mem_of_getElem? hke)
    have hk2 := he.val (List.mem_of_getElem? hke)
    refine sx ?_
    refine s_alloc fun b8 => ?_
    refine sx ?_
    refine s_callV rfl (has_s (by exact rby) (by exact rby) (by exact rby)) ?_
    refine sx ?_
    refine s_cond rfl (fun t => ?_) (fun t => ?_)
    · refine sx ?_
      refine s_call rfl (lcopied_s (by exact rby) (by exact rby) (by omega)) ?_
      rintro _ _ ⟨e', rfl, he', rfl⟩
      refine ⟨chk_seq, ?_⟩
      refine s_bsl [e'] rfl rfl fun b9 => ?_
      refine s_app ?_
      intro a3 c3
      refine sx ?_
      refine s_again (k + 1, a3, c3, fs ++ [e']) ⟨by omega, ?_⟩ (by show es.length - (k + 1) < es.length - k; omega)
      rw [hcs, ← hf, if_neg (by simpa using t)]
      simp only [List.map_append, List.map_cons, List.map_nil, he']
      rfl
    · refine sx ?_
      refine s_again (k + 1, a2, c2, fs) ⟨by omega, ?_⟩ (by show es.length - (k + 1) < es.length - k; omega)
      rw [hcs, ← hf, if_pos (by simpa using t), List.append_nil]
  · obtain rfl : k = es.length := by omega
    refine sx ?_
    refine s_ret2 rfl rfl rfl ⟨a2, c2, fs, rfl, ?_, rfl⟩
    rw [hf, List.take_of_length_le (by simp)]

theorem rhas_s {r : Rg} {a : Option Addr} {c : Nat} {xs : Bs} (h1 : RBy w0 H r.la r.lc r.lo) (h2 : RBy w0 H r.ha r.hc r.hi) (ha : RBy w0 H a c xs) : FnV Try.prog w0 H 59 #[.agg r.cells.toArray, .slice a xs.length c] (.bool (hasR r.lo r.hi r.all xs)) := by
  refine fns_enter Try.func59 rfl rfl rfl ?_
  refine sx ?_
  refine s_boxA rfl fun b => ?_
  refine sx ?_
  refine s_lif rfl (fun t1 => ?_) (fun t1 => ?_)
  · refine sx ?_
    refine s_lsp rfl (fun t2 => ?_) (fun t2 => ?_)
    · refine sx ?_
      exact s_ret1 rfl rfl ⟨by simp [hasR, t1, t2], rfl⟩
    · refine sx ?_
      exact s_ret1 rfl rfl ⟨by simp [hasR, t1, t2], rfl⟩
  · refine sx ?_
    exact s_ret1 rfl rfl ⟨by simp [hasR, t1], rfl⟩

theorem rcopy_s {e : KV} (hk : RBy w0 H e.ka e.kc e.k) (hv : RBy w0 H e.va e.vc e.v) (hl : e.k.length + e.v.length ≤ 140737488355328) : FnS Try.prog w0 H 60 #[.agg e.cells.toArray]
    (fun v H' => ∃ e' : KV, v = .agg e'.cells.toArray ∧ e'.p = e.p ∧ H' = ob e'.ka e'.kc e'.k :: ob e'.va e'.vc e'.v :: H) := by
  refine fns_enter Try.func60 rfl rfl rfl ?_
  refine sx ?_
  refine s_boxA rfl fun b => ?_
  refine s_alloc fun b2 => ?_
  refine sx ?_
  refine sx ?_; refine s_drH (.hb b 47 e.cells :: H) (.one true 1 (.one true 2 (.one true 5 (.one true 6 (.alt (.one false 0 (.alt (.one false 3 (.one false 4 (.one false 7 (.one true 8 (.one false 9 .nil))))) (.one false 4 (.one false 3 (.one false 7 (.one true 8 (.one false 9 .nil))))))) (.one false 4 (.one false 0 (.one false 3 (.one false 7 (.one true 8 (.one false 9 .nil))))))))))) mixed (by kernel_rfl) ?_; refine sx ?_
  repeat' (first | refine sx1 ?_ | with_reducible (refine s_alt ?_ ?_) | (refine s_bsl ([] : List UInt8) rfl rfl ?_; intro _) | (refine s_app ?_; intro _ _) | fail)
  all_goals exact s_retc rfl rfl (by exact at_) (by exact rfl) (by exact ⟨⟨_, _, _, _, _, _⟩, rfl, rfl, rfl⟩)

theorem rcut_s {a : Option Addr} {c : Nat} {es : List KV} {r : Rg} (he : REn w0 H a c es) (h1 : RBy w0 H r.la r.lc r.lo) (h2 : RBy w0 H r.ha r.hc r.hi) (hS : Small (es.map KV.p)) :
    FnS Try.prog w0 H 29 #[.slice a es.length c, .agg r.cells.toArray] (CutR 47 5 H es.length (es.map KV.p) r.lo r.hi r.all) := by
  refine fns_enter Try.func29 rfl rfl rfl ?_
  have hwl := wt_len (es.map KV.p)
  simp only [List.length_map, Small] at hwl hS
  refine sx ?_
  refine s_boxA rfl fun b => ?_
  refine sx ?_
  refine s_loop (fun (i : Nat × Option Addr × Nat × List KV) => [(0, .slice a es.length c), (3, .pointer (some ⟨b, 0, none⟩)), (6, .slice i.2.1 i.2.2.2.length i.2.2.1), (7, .int .i64 i.1)])
    (fun i => ol 47 i.2.1 i.2.2.1 i.2.2.2 :: .star (oKV 5 i.2.2.2) :: .hb b 49 r.cells :: H)
    (fun i => i.1 ≤ es.length ∧ i.2.2.2.map KV.p = cutL r.lo r.hi r.all ((es.map KV.p).take i.1)) (fun i => es.length - i.1) (0, none, 0, []) ⟨Nat.zero_le _, rfl⟩ ?_
  rintro ⟨k, a2, c2, fs⟩ ⟨hk, hf⟩
  have hfl : fs.length ≤ k := by rw [← List.length_map (f := KV.p), hf]; exact cutL_len ..
  simp only at hk hf hfl ⊢
  refine sx ?_
  refine s_if rfl (fun hlt => ?_) (fun hge => ?_)
  · obtain ⟨e, hke⟩ := get_lt es k (by omega)
    have hew := p_wt hke
    have hcs := cutL_snoc (lo := r.lo) (hi := r.hi) (all := r.all) (map_get hke)
    have hk1 := he.key (List.mem_of_getElem? hke)
    have hk2 := he.val (List.mem_of_getElem? hke)
    refine sx ?_
    refine sx ?_; refine s_dr (.one true 0 (.one true 1 (.one true 2 (.one true 3 (.one true 4 (.one true 5 (.one false 6 (.one true 7 .nil)))))))) mixed (by kernel_rfl) ?_; refine sx ?_
    refine s_callV rfl (rhas_s (by exact rby) (by exact rby) (by exact rby)) ?_
    refine sx ?_
    refine s_cond rfl (fun t => ?_) (fun t => ?_)
    · refine sx ?_
      refine s_call rfl (rcopy_s (by exact rby) (by exact rby) (by omega)) ?_
      rintro _ _ ⟨e', rfl, he', rfl⟩
      refine ⟨chk_seq, ?_⟩
      refine s_bsl [e'] rfl rfl fun b9 => ?_
      refine s_app ?_
      intro a3 c3
      refine sx ?_
      refine s_again (k + 1, a3, c3, fs ++ [e']) ⟨by omega, ?_⟩ (by show es.length - (k + 1) < es.length - k; omega)
      rw [hcs, ← hf, if_neg (by simpa using t)]
      simp only [List.map_append, List.map_cons, List.map_nil, he']
      rfl
    · refine sx ?_
      refine s_again (k + 1, a2, c2, fs) ⟨by omega, ?_⟩ (by show es.length - (k + 1) < es.length - k; omega)
      rw [hcs, ← hf, if_pos (by simpa using t), List.append_nil]
  · obtain rfl : k = es.length := by omega
    refine sx ?_
    refine s_ret2 rfl rfl rfl ⟨a2, c2, fs, rfl, ?_, rfl⟩
    rw [hf, List.take_of_length_le (by simp)]

theorem cuts_s {a : Option Addr} {c : Nat} {es : List KV} {r : Rg} (he : REn w0 H a c es) (h1 : RBy w0 H r.la r.lc r.lo) (h2 : RBy w0 H r.ha r.hc r.hi) (hz : ∀ e, e ∈ es → e.k.length ≤ 140737488351232 ∧ e.v.length ≤ 140737488351232) :
    FnV Try.prog w0 H 7 #[.slice a es.length c, .agg r.cells.toArray] (.bool true) := by
  refine fns_enter Try.func7 rfl rfl rfl ?_
  refine sx ?_
  refine s_boxA rfl fun b => ?_
  refine sx ?_
  refine s_callV rfl shown_s ?_
  refine sx ?_
  refine s_callV rfl (weight_s (by exact ren) hz) ?_
  refine sx ?_
  refine s_if rfl (fun hw => ?_) (fun hw => ?_)
  · refine sx ?_
    exact s_ret1 rfl rfl ⟨rfl, rfl⟩
  have hwt := (wB_le 0 (es.map KV.p)).1 (by omega)
  have hS : Small (es.map KV.p) := by simp only [Small]; omega
  refine sx ?_
  refine s_call rfl (lcut_s (by exact ren) (by exact rby) (by exact rby) hS) ?_
  rintro _ _ ⟨a2, c2, fs, rfl, hf, rfl⟩
  refine ⟨chk_seq, ?_⟩
  refine sx ?_
  refine s_call rfl (rcut_s (by exact ren) (by exact rby) (by exact rby) hS) ?_
  rintro _ _ ⟨a3, c3, gs, rfl, hg, rfl⟩
  refine ⟨chk_seq, ?_⟩
  refine sx ?_
  refine s_callV rfl (same_s (by exact ren) (by exact ren)) ?_
  rw [hf, hg, decide_eq_true rfl]
  have hl : fs.length = gs.length := by simpa using congrArg List.length (hf.trans hg.symm)
  refine sx ?_
  refine s_ret1 rfl rfl ⟨?_, rfl⟩
  rw [hl]
  simp
end Go.Sx
