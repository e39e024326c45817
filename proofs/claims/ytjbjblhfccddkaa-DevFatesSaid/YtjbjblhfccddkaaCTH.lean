/- Part of a proof: the blocks of a device of which writes wait. -/
import Derived.Test.YtjbjblhfccddkaaCTG
namespace Go.Sx
open Go Go.Proofs
set_option maxRecDepth 10000
variable {w0 : World} {H : List Ck}
/-- Do writes wait of it? -/
def Ad.wt (A : Ad) (n : Int) : Bool := !(A.at_ n).ws.isEmpty
theorem pend_of {N : Nat} {c : Cd} (hc : c.Ok N) {ss : List Int} (h1 : ss.Perm (c.kvs.map Prod.fst)) (h2 : ss.Pairwise (· ≤ ·)) : c.ad.Pend (ss.filter c.ad.wt) := by
  have hk : c.kvs.map Prod.fst = c.es.map Be.n := by simp [Cd.kvs, Be.kv, List.map_map, Function.comp_def]
  rw [hk] at h1
  have hnd : ss.Nodup := h1.nodup_iff.2 hc.nodup
  refine ⟨?_, fun m => ?_⟩
  · refine List.Pairwise.sublist List.filter_sublist ?_
    exact (h2.and hnd).imp fun h => by obtain ⟨h3, h4⟩ := h; omega
  · simp only [List.mem_filter, Ad.wt, h1.mem_iff]
    constructor
    · rintro ⟨_, h⟩ h0
      rw [h0] at h; simp at h
    · intro h
      refine ⟨?_, by cases h0 : (c.ad.at_ m).ws with
        | nil => exact absurd h0 h
        | cons _ _ => rfl⟩
      apply Classical.byContradiction
      intro hm
      exact h (by rw [show c.ad.at_ m = _ from atE_no hm])
theorem be_of {N : Nat} {c : Cd} (hc : c.Ok N) {x : Int} (h : x ∈ c.kvs.map Prod.fst) : ∃ (i : Nat) (e : Be), c.es[i]? = some e ∧ e.n = x ∧ aget c.kvs x = some (.pointer (some ⟨e.k, 0, none⟩)) ∧ c.ad.at_ x = e.b.ab c.size := by
  have hk : c.kvs.map Prod.fst = c.es.map Be.n := by simp [Cd.kvs, Be.kv, List.map_map, Function.comp_def]
  rw [hk] at h
  obtain ⟨e, he, rfl⟩ := List.mem_map.1 h
  obtain ⟨i, hi⟩ := List.getElem?_of_mem he
  exact ⟨i, e, hi, rfl, by rw [show aget c.kvs e.n = _ from aget_kvs c.es e.n, find_be hc.nodup hi]; rfl, atE_of hc.nodup hi⟩
abbrev PendR (c : Cd) (lk : Int) (H : List Ck) : Value → List Ck → Prop := fun v K => ∃ (a : Option Addr) (cc : Nat) (l : List Int), c.ad.Pend l ∧ l.length ≤ 65536 ∧ v = .slice a l.length cc ∧ K = ol 3 a cc l :: c.on lk H
set_option maxHeartbeats 2000000 in
theorem pending_s {c : Cd} {N : Nat} {lk : Int} (hc : c.Ok N) (hN : N ≤ 1099511627776) :
    FnS Try.prog w0 (c.on lk H) 32 #[.pointer (some ⟨c.b, 0, none⟩)] (PendR c lk H) := by
  refine fns_enter Try.func32 rfl rfl rfl ?_
  have hle := hc.es_le
  have hkl : c.kvs.length ≤ 65536 := by simpa [Cd.kvs] using hle
  refine sx ?_
  refine s_call rfl keys_s ?_
  rintro _ _ ⟨b, rfl, rfl⟩
  refine ⟨chk_seq, ?_⟩
  refine sx ?_
  refine s_call rfl (sorted_s (m := c.m) (kvs := c.kvs) (fun w hs => Sat.hbOf (c' := .hb b 71 [.map (some c.m)]) .hd hs) (by exact rmk) hkl) ?_
  rintro _ _ ⟨a, cc, ss, h1, h2, rfl, rfl⟩
  have hsl : ss.length ≤ 65536 := by rw [h1.length_eq]; simpa using hkl
  have hnn := hc.nn
  have hx : ∀ x ∈ ss, I64 x := fun x hx => by
    have h3 := h1.mem_iff.1 hx
    obtain ⟨i, e, hi, rfl, _⟩ := be_of hc h3
    have := hc.dom e (List.mem_of_getElem? hi)
    exact ⟨by omega, by omega⟩
  refine ⟨chk_seq, ?_⟩
  refine sx ?_
  refine s_loop (ι := Nat × Option Addr × Nat) (fun i => [(0, .pointer (some ⟨c.b, 0, none⟩)), (3, .slice i.2.1 ((ss.take i.1).filter c.ad.wt).length i.2.2), (11, .slice a ss.length cc), (12, .int .i64 ss.length), (13, .int .i64 i.1)])
    (fun i => ol 3 i.2.1 i.2.2 ((ss.take i.1).filter c.ad.wt) :: ol 3 a cc ss :: c.on lk H) (fun i => i.1 ≤ ss.length) (fun i => ss.length - i.1) (0, none, 0) (Nat.zero_le _) ?_ (he := Ent.addNil (by exact ent))
  rintro ⟨k, oa, oc⟩ hk
  have hk : k ≤ ss.length := hk
  show SC _ _ _ _ _ _ _ (ol 3 oa oc ((ss.take k).filter c.ad.wt) :: ol 3 a cc ss :: c.on lk H)
  refine sx ?_
  refine s_if rfl (fun h3 => ?_) (fun h3 => ?_)
  rotate_left
  · refine sx ?_
    have e1 : ss.take k = ss := List.take_of_length_le (by omega)
    refine s_ret1 rfl rfl ⟨oa, oc, (ss.take k).filter c.ad.wt, by rw [e1]; exact pend_of hc h1 h2, Nat.le_trans (List.length_filter_le ..) (by simp; omega), rfl, rfl⟩ (by exact ent)
  obtain ⟨x, hxk⟩ : ∃ x, ss[k]? = some x := ⟨_, List.getElem?_eq_getElem (by omega)⟩
  have hxm := List.mem_of_getElem? hxk
  obtain ⟨i, e, hi, hen, hag, hat⟩ := be_of hc (h1.mem_iff.1 hxm)
  have hb := hc.bk e (List.mem_of_getElem? hi)
  have l1 := hb.few
  refine sx ?_
  refine s_lkp c.kvs rfl rfl (i64_wf (hx x hxm)) ?_
  rw [hag]
  refine s_entL _ (Ent.head (Ent.head (Cd.out hi))) ?_
  refine sx ?_
  have hwt : c.ad.wt x = decide (0 < (e.b.ws.length : Int)) := by
    simp only [Ad.wt, hat, Bk.ab]
    cases e.b.ws with
    | nil => rfl
    | cons _ _ => simp
  have htk : ss.take (k + 1) = ss.take k ++ [x] := by rw [List.take_add_one, hxk]; rfl
  refine s_if rfl (fun h4 => ?_) (fun h4 => ?_)
  · have e1 : (ss.take (k + 1)).filter c.ad.wt = (ss.take k).filter c.ad.wt ++ [x] := by rw [htk, List.filter_append, List.filter_cons, hwt, decide_eq_true h4]; rfl
    refine sx ?_
    refine s_bsl ([x] : List Int) rfl rfl fun b1 => ?_
    refine sx ?_
    have hfl : ((ss.take k).filter c.ad.wt).length ≤ 65536 := Nat.le_trans (List.length_filter_le ..) (by simp; omega)
    refine s_app (ys := [x]) ?_
    intro a1 c1
    refine sx ?_
    refine s_again (k + 1, a1, c1) (by show k + 1 ≤ ss.length; omega) (by show ss.length - (k + 1) < ss.length - k; omega) ?_ ?_
    · rw [e1]
      exact ⟨rfl, rfl, rfl, rfl, rfl, trivial⟩
    · show Ent _ (ol 3 a1 c1 ((ss.take (k + 1)).filter c.ad.wt) :: ol 3 a cc ss :: c.on lk H)
      rw [e1]
      exact Ent.tl (Ent.head (Ent.head (Cd.back hi)))
  · have e1 : (ss.take (k + 1)).filter c.ad.wt = (ss.take k).filter c.ad.wt := by rw [htk, List.filter_append, List.filter_cons, hwt, decide_eq_false h4]; simp
    refine sx ?_
    refine s_again (k + 1, oa, oc) (by show k + 1 ≤ ss.length; omega) (by show ss.length - (k + 1) < ss.length - k; omega) ?_ ?_
    · rw [e1]
      exact ⟨rfl, rfl, rfl, rfl, rfl, trivial⟩
    · show Ent _ (ol 3 oa oc ((ss.take (k + 1)).filter c.ad.wt) :: ol 3 a cc ss :: c.on lk H)
      rw [e1]
      exact Ent.head (Ent.head (Cd.back hi))
end Go.Sx
