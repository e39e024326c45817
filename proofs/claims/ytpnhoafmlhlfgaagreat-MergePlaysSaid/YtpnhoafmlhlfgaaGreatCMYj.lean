/- Part of a proof: several parts of a walk, one behind the other. -/
import Derived.Test.YtpnhoafmlhlfgaaGreatCML
import Derived.Test.YtpnhoafmlhlfgaaGreatCKB
import Derived.Test.YtpnhoafmlhlfgaaGreatCMVj
import Derived.Test.YtpnhoafmlhlfgaaGreatCMX
import Derived.Test.YtpnhoafmlhlfgaaGreatCOBj
namespace Go.Sx
open Go Go.Proofs
set_option maxRecDepth 10000
variable {w0 : World} {H : List Ck}
end Go.Sx
namespace Go.Sx
open Go Go.Proofs
set_option maxRecDepth 10000
variable {w0 : World} {H : List Ck}
/-- So much is in lists of entries. -/
def sumLs (ls : List SE) : Nat := (ls.map fun s => 1 + sumG s.xs).sum
theorem sumG_mem {l : List KV} {e : KV} (h : e ∈ l) : 6 + e.k.length + e.v.length ≤ sumG l := by
  induction l with
  | nil => cases h
  | cons x l ih =>
    simp only [sumG, List.map_cons, List.sum_cons] at ih ⊢
    rcases List.mem_cons.1 h with rfl | h
    · omega
    · have := ih h
      omega
theorem unN_len : ∀ (n : Nat) (ls : List (List Pp)), (unN n ls).length ≤ n
  | 0, _ => Nat.le_refl _
  | n + 1, ls => by
    unfold unN
    split
    · exact Nat.zero_le _
    · split
      · have := unN_len n
        rw [List.length_cons]
        exact Nat.succ_le_succ (this _)
      · exact Nat.zero_le _
theorem Maps.tot : ∀ {fs : List OfD} {ls : List SE}, Maps fs ls → Sx.tot (fs.map OfD.l) ≤ sumLs ls
  | [], _, _ => Nat.zero_le _
  | _ :: _, [], h => by have := h.1; simp at this
  | d :: fs, s :: ls, h => by
    have h0 := h.2 0 d s rfl rfl
    have ih := Maps.tot (fs := fs) (ls := ls) ⟨by have := h.1; simpa using this, fun i d' s' hd hs => h.2 (i + 1) d' s' (by simpa using hd) (by simpa using hs)⟩
    have h4 := h0.2.2.2
    have h5 := sumG_len s.xs
    rw [List.map_cons, tot_cons]
    simp only [sumLs, List.map_cons, List.sum_cons] at ih ⊢
    omega
theorem un_len (ls : List (List Pp)) : (unionL ls).length ≤ Sx.tot ls := unN_len _ _
end Go.Sx
namespace Go.Sx
open Go Go.Proofs
set_option maxRecDepth 10000
variable {w0 : World} {H : List Ck}
/-- Entries of one's own, with their bytes. -/
@[reducible] def oL (a : Option Addr) (c : Nat) (out : List KV) (H : List Ck) : List Ck := ol 51 a c out :: stars oKVs out :: H
structure RcI where
  i : Nat
  a : Option Addr
  c : Nat
  os : List KV
set_option maxHeartbeats 4000000 in
theorem g13copy_s {a : Option Addr} {c : Nat} {es : List KV} (hx : RSl w0 H a c es) (hr : ∀ e ∈ es, REe w0 H e) (hl : es.length ≤ 549755813888) (hsm : SmL (es.map KV.p)) :
    FnS Tryz.prog w0 H 40 #[.slice a es.length c] (fun v H' => ∃ a' c' out, v = .slice a' (out : List KV).length c' ∧ out.map KV.p = es.map KV.p ∧ H' = oL a' c' out H) := by
  refine fns_enter Tryz.func40 rfl rfl rfl ?_
  refine sx ?_
  refine s_loop (fun q : RcI => [(0, .slice a es.length c), (3, .slice q.a q.os.length q.c), (4, .int .i64 q.i)]) (fun q => oL q.a q.c q.os H) (fun q => q.i ≤ es.length ∧ q.os.map KV.p = (es.map KV.p).take q.i) (fun q => es.length - q.i) ⟨0, none, 0, []⟩ ⟨Nat.zero_le _, by simp⟩ ?_ (he := Ent.nilS.trans (Ent.head stars_nil))
  rintro ⟨i, oa, oc, os⟩ ⟨h1, h2⟩
  simp only at h1 h2 ⊢
  have hol : os.length = i := by
    have := congrArg List.length h2
    simp only [List.length_map, List.length_take] at this
    omega
  refine sx ?_
  refine s_if rfl (fun t1 => ?_) (fun t1 => ?_)
  · obtain ⟨e, he⟩ := get_lt es i (by omega)
    have her := hr e (List.mem_of_getElem? he)
    obtain ⟨y1, y2⟩ := hsm.kv rfl (List.mem_of_getElem? he)
    have hek := her.k
    have hev := her.v
    refine sx ?_; refine s_drH (H) (.one true 0 (.one true 1 (.one true 2 (.one true 3 (.one true 4 (.one true 5 (.one true 7 (.one true 8 (.one true 9 (.one true 10 (.one true 11 (.one false 6 (.one false 12 (.one true 13 (.one false 14 (.one false 15 (.one true 16 .nil))))))))))))))))) mixed (by kernel_rfl) ?_; refine sx ?_
    refine s_call rfl (qcopy_s (xs := e.k) (by exact rby) y1) ?_
    rintro _ _ ⟨ka, rfl, rfl⟩
    refine ⟨chk_held (by exact ent), ?_⟩
    refine sx ?_
    refine s_call rfl (qcopy_s (xs := e.v) (by exact rby) y2) ?_
    rintro _ _ ⟨va, rfl, rfl⟩
    refine ⟨chk_held (by exact ent), ?_⟩
    refine sx ?_
    refine s_bsl [(⟨ka, e.k.length, e.k, va, e.v.length, e.v⟩ : KV)] rfl rfl fun b42 => ?_
    refine s_app (xs := os) (ys := [(⟨ka, e.k.length, e.k, va, e.v.length, e.v⟩ : KV)]) ?_ (hby := by simp only [List.length_cons, List.length_nil]; omega)
    intro a4 c4
    refine sx ?_
    refine s_again ⟨i + 1, a4, c4, os ++ [⟨ka, e.k.length, e.k, va, e.v.length, e.v⟩]⟩ ⟨by simp only; omega, ?_⟩ (by simp only; omega) (he := ?_)
    · simp only [List.map_append]
      rw [h2, snocT (get_map (f := KV.p) he)]
      rfl
    · refine Ent.cons (by exact rm) ?_
      exact Ent.trans (H' := ob ka e.k.length e.k :: ob va e.v.length e.v :: stars oKVs os :: H) (by exact ent) (stars_snoc (f := oKVs) (s := ⟨ka, e.k.length, e.k, va, e.v.length, e.v⟩))
  · obtain rfl : i = es.length := by omega
    rw [List.take_of_length_le (by simp)] at h2
    refine sx ?_
    exact s_ret1 rfl rfl ⟨oa, oc, os, rfl, h2, rfl⟩
set_option maxHeartbeats 1000000 in
theorem g13all_s {a : Option Addr} {c : Nat} {es : List KV} {most : Int} (hx : RSl w0 H a c es) (hr : ∀ e ∈ es, REe w0 H e) (hl : es.length ≤ 549755813888) (hsm : SmL (es.map KV.p)) :
    FnS Tryz.prog w0 H 13 #[.slice a es.length c, .int .i64 most] (fun v H' => ∃ a' c' out, v = .slice a' (out : List KV).length c' ∧ out.map KV.p = tk most (es.map KV.p) ∧ H' = oL a' c' out H) := by
  refine fns_enter Tryz.func13 rfl rfl rfl ?_
  refine s_kn (Kn.sl hx) fun l1 => ?_
  simp only [maxLen] at l1
  have cp := g13copy_s hx hr hl hsm
  refine sx ?_
  refine s_lif rfl (fun t1 => ?_) (fun t1 => ?_)
  · have htk : tk most (es.map KV.p) = es.map KV.p := by unfold tk; rw [if_pos t1]
    rw [htk]
    refine sx ?_
    refine s_call rfl cp ?_
    rintro _ _ ⟨a', c', out, rfl, ho, rfl⟩
    refine ⟨chk_seq, ?_⟩
    refine sx ?_
    exact s_ret1 rfl rfl ⟨a', c', out, rfl, ho, rfl⟩
  · refine sx ?_
    refine s_if rfl (fun t2 => ?_) (fun t2 => ?_)
    · have t2 : (es.length : Int) < most := t2
      have htk : tk most (es.map KV.p) = es.map KV.p := by unfold tk; rw [if_neg t1, List.take_of_length_le (by simp; omega)]
      rw [htk]
      refine sx ?_
      refine s_call rfl cp ?_
      rintro _ _ ⟨a', c', out, rfl, ho, rfl⟩
      refine ⟨chk_seq, ?_⟩
      refine sx ?_
      exact s_ret1 rfl rfl ⟨a', c', out, rfl, ho, rfl⟩
    · have t2 : ¬ (es.length : Int) < most := t2
      obtain ⟨k, rfl⟩ : ∃ k : Nat, most = k := ⟨most.toNat, by omega⟩
      have htk : tk (k : Int) (es.map KV.p) = (es.take k).map KV.p := by unfold tk; rw [if_neg t1, List.map_take, Int.toNat_natCast]
      have hlk : (es.take k).length = k := by rw [List.length_take]; omega
      have cp := g13copy_s (hx.take (k := k) (by omega)) (fun e he => hr e (List.mem_of_mem_take he)) (by omega) (fun p hp => hsm p (by rw [List.map_take] at hp; exact List.mem_of_mem_take hp))
      rw [hlk] at cp
      rw [htk]
      refine sx ?_
      refine s_call rfl cp ?_
      rintro _ _ ⟨a', c', out, rfl, ho, rfl⟩
      refine ⟨chk_seq, ?_⟩
      refine sx ?_
      exact s_ret1 rfl rfl ⟨a', c', out, rfl, ho, rfl⟩
theorem pkv_eq {L M : List (Bs × Bs)} {i : Nat} {x y : KV} (e : L = M) (h1 : L[i]? = some x.p) (h2 : M[i]? = some y.p) : x.k = y.k ∧ x.v = y.v := by
  rw [e, h2] at h1
  have := Option.some.inj h1
  simp only [KV.p, Prod.mk.injEq] at this
  exact ⟨this.1.symm, this.2.symm⟩
end Go.Sx

