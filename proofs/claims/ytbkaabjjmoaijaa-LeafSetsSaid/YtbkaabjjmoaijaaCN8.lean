/- Part of a proof: Check, Bytes, Encode as the document says, kept; copies of entries. -/
import Derived.Test.YtbkaabjjmoaijaaCN7
namespace Go.Sx
open Go Go.Proofs
set_option maxRecDepth 10000
variable {w0 : World} {H : List Ck}

theorem encB_len {size : Int} {ps : Ps} : (encB size ps).length ≤ 4096 := by
  unfold encB
  split
  · rename_i h
    unfold chkL at h
    split at h
    · rename_i hs
      have h1 := ((chk_iff hs).1 (by unfold chkL; rw [if_pos hs]; exact h)).2
      have h2 := sized_bd hs
      rw [encodeL_len]
      omega
    · omega
  · simp
theorem encoded_s {B : Bk} {n : Nat} {size : Int} {a a' : Option Addr} {c c' : Nat} {es fs : List KV} (hB : B.Ok n) (hn : n ≤ 1099511000000) (hz : I64 size) (he : REn w0 H a c es) (hf : REn w0 H a' c' fs) (hS : Small (es.map KV.p)) (hp : fs.map KV.p = es.map KV.p) :
    FnS Try.prog w0 (B.ck :: H) 16 #[.pointer (some ⟨B.k, 0, none⟩), .int .i64 size, .slice a es.length c, .slice a' fs.length c'] (fun v H' => v = .bool true ∧ ∃ B' : Bk, H' = B'.ck :: H ∧ B'.k = B.k ∧ B'.Ok (n + 2)) := by
  have hS' : Small (fs.map KV.p) := by rw [hp]; exact hS
  refine fns_enter Try.func16 rfl rfl rfl ?_
  refine sx ?_
  refine s_loop (fun (i : Nat × Bk) => [(0, .pointer (some ⟨B.k, 0, none⟩)), (1, .int .i64 size), (2, .slice a es.length c), (3, .slice a' fs.length c'), (9, .int .i64 i.1)]) (fun i => i.2.ck :: H) (fun i => i.1 ≤ 2 ∧ i.2.k = B.k ∧ i.2.Ok (n + i.1)) (fun i => 2 - i.1) (0, B) ⟨Nat.zero_le _, rfl, hB⟩ ?_
  rintro ⟨i, B1⟩ ⟨hi, hk, h1⟩
  simp only at hi hk h1 ⊢
  refine sx ?_
  refine s_if rfl (fun t1 => ?_) (fun t1 => ?_)
  · refine sx ?_
    refine s_callV rfl (lcheck_s (es := es) (by exact ren) hS hz) ?_
    refine sx ?_
    refine s_callV rfl (lbytes_s (es := es) (by exact ren) hS) ?_
    refine sx ?_
    refine s_call rfl (lencode_s (es := es) (by exact ren) hS hz) ?_
    rintro _ _ ⟨a1, c1, rfl, rfl⟩
    refine ⟨chk_seq, ?_⟩
    refine sx ?_
    have hre := rencode_s (w0 := w0) (H := ob a1 c1 (encB size (es.map KV.p)) :: B1.ck :: H) (a := a') (c := c') (es := fs) (by exact ren) hS' hz
    rw [hp] at hre
    refine s_call rfl hre ?_
    rintro _ _ ⟨a2, c2, rfl, rfl⟩
    refine ⟨chk_seq, ?_⟩
    have hrc := rcheck_s (w0 := w0) (H := ob a2 c2 (encB size (es.map KV.p)) :: ob a1 c1 (encB size (es.map KV.p)) :: B1.ck :: H) (a := a') (c := c') (es := fs) (by exact ren) hS' hz
    have hrb := rbytes_s (w0 := w0) (H := ob a2 c2 (encB size (es.map KV.p)) :: ob a1 c1 (encB size (es.map KV.p)) :: B1.ck :: H) (a := a') (c := c') (es := fs) (by exact ren) hS'
    rw [hp] at hrc hrb
    refine sx ?_
    refine s_callV rfl hrc ?_
    refine sx ?_
    refine s_callV rfl hrb ?_
    refine sx ?_
    rw [← hk]
    refine s_call rfl ((keepB_s (H := H) (a := a1) (c := c1) (xs := encB size (es.map KV.p)) h1 (by omega) (by have := encB_len (size := size) (ps := es.map KV.p); omega)).ent (by exact ent)) ?_
    rintro _ _ ⟨B2, rfl, hk2, h2⟩
    refine ⟨chk_seq, ?_⟩
    refine sx ?_
    exact s_again (i + 1, B2) ⟨by simp only; omega, by simp only; omega, h2⟩ (by simp only; omega)
  · obtain rfl : i = 2 := by omega
    refine sx ?_
    exact s_ret1 rfl rfl ⟨rfl, B1, rfl, hk, h1⟩

theorem copies_s {a : Option Addr} {c : Nat} {es : List KV} (he : REn w0 H a c es) (hS : Small (es.map KV.p)) :
    FnS Try.prog w0 H 44 #[.slice a es.length c] (fun v H' => ∃ a' c' fs, v = .slice a' (fs : List KV).length c' ∧ fs.map KV.p = es.map KV.p ∧ H' = oe a' c' fs :: H) := by
  refine fns_enter Try.func44 rfl rfl rfl ?_
  have hwl := wt_len (es.map KV.p)
  simp only [List.length_map, Small] at hwl hS
  refine sx ?_
  refine s_loop (fun (i : Nat × Option Addr × Nat × List KV) => [(0, .slice a es.length c), (3, .slice i.2.1 i.2.2.2.length i.2.2.1), (4, .int .i64 i.1)]) (fun i => ol 47 i.2.1 i.2.2.1 i.2.2.2 :: .star (oKV 5 i.2.2.2) :: H)
    (fun i => i.1 ≤ es.length ∧ i.2.2.2.map KV.p = (es.map KV.p).take i.1) (fun i => es.length - i.1) (0, none, 0, []) ⟨Nat.zero_le _, rfl⟩ ?_
  rintro ⟨k, a2, c2, fs⟩ ⟨hk, hf⟩
  simp only at hk hf ⊢
  have hfl : fs.length = k := by rw [← List.length_map (f := KV.p), hf]; simp; omega
  refine sx ?_
  refine s_if rfl (fun t1 => ?_) (fun t1 => ?_)
  · obtain ⟨e, hke⟩ := get_lt es k (by omega)
    have hew := p_wt hke
    have hk1 := he.key (List.mem_of_getElem? hke)
    have hk2 := he.val (List.mem_of_getElem? hke)
    refine sx ?_; refine s_drR (ol 47 a2 c2 fs) (by exact rm) (.one true 0 (.one true 2 (.one true 3 (.one true 4 (.one true 5 (.one true 6 (.one true 9 (.one true 10 (.one true 11 (.one true 12 (.one true 13 (.alt (.one false 1 (.alt (.one false 7 (.one false 8 (.one false 14 (.one true 15 (.one false 16 (.one false 17 (.one true 18 .nil))))))) (.one false 8 (.one false 7 (.one false 14 (.one true 15 (.one false 16 (.one false 17 (.one true 18 .nil))))))))) (.one false 8 (.one false 1 (.one false 7 (.one false 14 (.one true 15 (.one false 16 (.one false 17 (.one true 18 .nil)))))))))))))))))))) mixed (by kernel_rfl) ?_; refine sx ?_
    repeat' (first | refine sx1 ?_ | with_reducible (refine s_alt ?_ ?_) | (refine s_bsl ([] : List UInt8) rfl rfl ?_; intro _) | (refine s_app ?_; intro _ _) | fail)
    all_goals refine s_bsl [(⟨_, _, [] ++ e.k, _, _, [] ++ e.v⟩ : KV)] rfl rfl fun b9 => ?_
    all_goals refine sx ?_
    all_goals refine s_app ?_
    all_goals intro a3 c3
    all_goals refine sx ?_
    all_goals refine s_again (k + 1, a3, c3, fs ++ [(⟨_, _, [] ++ e.k, _, _, [] ++ e.v⟩ : KV)]) ⟨by simp only; omega, ?_⟩ (by simp only; omega)
    all_goals (simp only; rw [take_snoc' (map_get hke), ← hf]; simp only [List.map_append, List.map_cons, List.map_nil, KV.p, List.nil_append])
  · obtain rfl : k = es.length := by omega
    refine sx ?_
    refine s_ret1 rfl rfl ⟨a2, c2, fs, rfl, ?_, rfl⟩
    rw [hf, List.take_of_length_le (by simp)]
end Go.Sx
