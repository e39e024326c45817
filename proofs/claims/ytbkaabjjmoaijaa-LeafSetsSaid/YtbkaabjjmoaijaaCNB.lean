/- Part of a proof: Find, Set and Cut as the document says; what comes out is kept. -/
import Derived.Test.YtbkaabjjmoaijaaCN9
import Derived.Test.YtbkaabjjmoaijaaCM9
namespace Go.Sx
open Go Go.Proofs
set_option maxRecDepth 10000
variable {w0 : World} {H : List Ck}
theorem kv_bd {es : List KV} {m : Nat} (h : wt (es.map KV.p) ≤ m) : es.length ≤ m ∧ ∀ e ∈ es, e.k.length ≤ m ∧ e.v.length ≤ m := by
  have := wt_len (es.map KV.p)
  rw [List.length_map] at this
  refine ⟨by omega, fun e he => ?_⟩
  obtain ⟨i, hi⟩ := List.getElem?_of_mem he
  have := p_wt hi
  omega
theorem asked_s {B : Bk} {n : Nat} {a a' : Option Addr} {c c' : Nat} {es fs : List KV} {e : KV} {r : Rg} (hB : B.Ok n) (hn : n ≤ 1000000000000) (he : REn w0 H a c es) (hf : REn w0 H a' c' fs) (hp : fs.map KV.p = es.map KV.p)
    (hek : RBy w0 H e.ka e.kc e.k) (hev : RBy w0 H e.va e.vc e.v) (hr1 : RBy w0 H r.la r.lc r.lo) (hr2 : RBy w0 H r.ha r.hc r.hi) (hR : Rise (es.map KV.p)) (hw : wt (es.map KV.p) + (1 + e.k.length + e.v.length) ≤ 2147483647) :
    FnS Try.prog w0 (B.ck :: H) 33 #[.pointer (some ⟨B.k, 0, none⟩), .slice a es.length c, .agg e.cells.toArray, .agg r.cells.toArray, .slice a' fs.length c'] (fun v H' => v = .bool true ∧ ∃ B' : Bk, H' = B'.ck :: H ∧ B'.k = B.k ∧ B'.Ok (n + 17179869200)) := by
  have hS : Small (es.map KV.p) := by simp only [Small]; omega
  have hR' : Rise (fs.map KV.p) := by rw [hp]; exact hR
  have hS' : Small (fs.map KV.p) := by rw [hp]; exact hS
  have hn' : fs.length = es.length := by simpa using congrArg List.length hp
  refine fns_enter Try.func33 rfl rfl rfl ?_
  refine sx ?_
  refine s_boxA rfl fun b7 => ?_
  refine sx ?_
  refine s_boxA rfl fun b8 => ?_
  refine sx ?_
  refine s_callV rfl (lfind_s (es := es) (by exact ren) (by exact rby) hR hS) ?_
  refine sx ?_
  refine s_callV rfl (rfind_s (es := fs) (by exact ren) (by exact rby)) ?_
  rw [hp]
  refine sx ?_
  refine s_call rfl (lset_s (e := e) (es := es) (by exact ren) (by exact rby) (by exact rby) hR hS (by omega)) ?_
  rintro _ _ ⟨a1, c1, ss, rfl, hss, rfl⟩
  refine ⟨chk_seq, ?_⟩
  refine sx ?_
  refine s_call rfl (lcut_s (r := r) (es := es) (by exact ren) (by exact rby) (by exact rby) hS) ?_
  rintro _ _ ⟨a2, c2, cs, rfl, hcs, rfl⟩
  refine ⟨chk_seq, ?_⟩
  refine sx ?_
  refine s_call rfl (rset_s (e := e) (es := fs) (by exact ren) (by exact rby) (by exact rby) hR' hS' (by omega)) ?_
  rintro _ _ ⟨a3, c3, ts, rfl, hts, rfl⟩
  refine ⟨chk_seq, ?_⟩
  refine sx ?_
  refine s_call rfl (rcut_s (r := r) (es := fs) (by exact ren) (by exact rby) (by exact rby) hS') ?_
  rintro _ _ ⟨a4, c4, ds, rfl, hds, rfl⟩
  refine ⟨chk_seq, ?_⟩
  rw [hp] at hts hds
  have hcd : cs.length = ds.length := by have := congrArg List.length (hcs.trans hds.symm); simpa using this
  refine sx ?_
  refine s_callV rfl (same_t (es := ss) (fs := ts) (by exact ren) (by exact ren) (hss.trans hts.symm)) ?_
  refine sx ?_
  refine s_callV rfl (same_t (es := cs) (fs := ds) (by exact ren) (by exact ren) (hcs.trans hds.symm)) ?_
  refine sx ?_
  have w1 : wt (ss.map KV.p) ≤ 4294967296 := by rw [hss]; have := wt_setL (es.map KV.p) e.p; simp only [KV.p] at this ⊢; omega
  have w2 : wt (cs.map KV.p) ≤ 4294967296 := by rw [hcs]; have : wt (cutL r.lo r.hi r.all (es.map KV.p)) ≤ wt (es.map KV.p) := wt_sub List.filter_sublist; omega
  have k1 := kv_bd w1
  have k2 := kv_bd w2
  refine s_call rfl ((entries_s (H := oe a2 c2 cs :: H) (a := a1) (c := c1) (es := ss) hB (by omega) k1.1 k1.2).ent (by exact ent)) ?_
  rintro _ _ ⟨B1, rfl, hk1, ho1⟩
  refine ⟨chk_seq, ?_⟩
  rw [← hk1]
  refine sx ?_
  refine s_call rfl ((entries_s (H := H) (a := a2) (c := c2) (es := cs) ho1 (by omega) k2.1 k2.2).ent (by exact ent)) ?_
  rintro _ _ ⟨B2, rfl, hk2, ho2⟩
  refine ⟨chk_seq, ?_⟩
  refine sx ?_
  refine s_rw (t := 75) (v' := .bool true) rfl (by rw [beq_self_eq_true]) ?_
  refine sx ?_
  refine s_ret1 rfl rfl ⟨?_, B2, rfl, hk2, ho2.mono (by omega)⟩
  rw [hn', hcd]
  simp
end Go.Sx
