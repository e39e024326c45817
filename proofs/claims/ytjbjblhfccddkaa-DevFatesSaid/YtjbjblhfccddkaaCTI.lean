/- Part of a proof: Pending, Off, Size, Arm and Flip of the device. -/
import Derived.Test.YtjbjblhfccddkaaCTH
namespace Go.Sx
open Go Go.Proofs
set_option maxRecDepth 10000
variable {w0 : World} {H : List Ck}
/-- What waits of a block. -/
structure Wt where
  b : Int
  n : Nat
instance : Cel Wt := ⟨2, fun x => [.int .i64 x.b, .int .i64 x.n], fun _ => rfl, fun _ => rfl, Nat.two_pos⟩
instance : ElT Try.prog 43 Wt := ⟨trivial⟩
def Ad.wto (A : Ad) (n : Int) : Wt := ⟨n, (A.at_ n).ws.length⟩
abbrev PdR (c : Cd) (H : List Ck) : Value → List Ck → Prop := fun v K => ∃ (a : Option Addr) (cc : Nat) (l : List Int), c.ad.Pend l ∧ l.length ≤ 65536 ∧ v = .slice a (l.map c.ad.wto).length cc ∧ K = c.on 0 (ol 43 a cc (l.map c.ad.wto) :: H)
set_option maxHeartbeats 2000000 in
theorem Pending_s {c : Cd} {N : Nat} (hc : c.Ok N) (hN : N ≤ 1099511627776) : FnS Try.prog w0 (c.on 0 H) 14 #[.pointer (some ⟨c.b, 0, none⟩)] (PdR c H) := by
  refine fns_enterD Try.func14 rfl rfl rfl ?_
  refine sx ?_
  refine s_call rfl lock_d ?_
  rintro _ _ ⟨rfl, rfl⟩
  refine ⟨chk_seq, ?_⟩
  refine sx ?_
  refine s_deferF [.pointer (some ⟨c.b, 0, none⟩)] rfl ?_
  refine sx ?_
  refine s_call rfl (pending_s hc hN) ?_
  rintro _ _ ⟨a, cc, l, hP, hl, rfl, rfl⟩
  refine ⟨chk_seq, ?_⟩
  have hnn := hc.nn
  have hmem : ∀ x ∈ l, x ∈ c.kvs.map Prod.fst := fun x hx => by
    have hk : c.kvs.map Prod.fst = c.es.map Be.n := by simp [Cd.kvs, Be.kv, List.map_map, Function.comp_def]
    rw [hk]
    apply Classical.byContradiction
    intro hm
    exact (hP.iff x).1 hx (by rw [show c.ad.at_ x = _ from atE_no hm])
  refine sx ?_
  refine s_loop (ι := Nat × Option Addr × Nat) (fun i => [(0, .pointer (some ⟨c.b, 0, none⟩)), (3, .slice i.2.1 ((l.take i.1).map c.ad.wto).length i.2.2), (14, .slice a l.length cc), (15, .int .i64 l.length), (16, .int .i64 i.1)])
    (fun i => ol 43 i.2.1 i.2.2 ((l.take i.1).map c.ad.wto) :: ol 3 a cc l :: c.on 1 H) (fun i => i.1 ≤ l.length) (fun i => l.length - i.1) (0, none, 0) (Nat.zero_le _) ?_ (he := Ent.addNil (by exact ent))
  rintro ⟨k, oa, oc⟩ hk
  have hk : k ≤ l.length := hk
  show SC _ _ _ _ _ _ _ (ol 43 oa oc ((l.take k).map c.ad.wto) :: ol 3 a cc l :: c.on 1 H)
  refine sx ?_
  refine s_if rfl (fun h3 => ?_) (fun h3 => ?_)
  rotate_left
  · refine sx ?_
    have e1 : l.take k = l := List.take_of_length_le (by omega)
    simp only [e1]
    refine s_entQ (c.on 1 (ol 43 oa oc (l.map c.ad.wto) :: H)) (by exact ent) ?_
    exact d_ret1 (c := c) rfl rfl ⟨oa, oc, l, hP, hl, rfl, rfl⟩
  obtain ⟨x, hxk⟩ : ∃ x, l[k]? = some x := ⟨_, List.getElem?_eq_getElem (by omega)⟩
  obtain ⟨i, e, hi, hen, hag, hat⟩ := be_of hc (hmem x (List.mem_of_getElem? hxk))
  have hb := hc.bk e (List.mem_of_getElem? hi)
  have l1 := hb.few
  have hx : I64 x := by
    have := hc.dom e (List.mem_of_getElem? hi)
    exact ⟨by omega, by omega⟩
  refine sx ?_
  refine s_lkp c.kvs rfl rfl (i64_wf hx) ?_
  rw [hag]
  refine s_entL _ (Ent.head (Ent.head (Cd.out hi))) ?_
  refine sx ?_
  have htk : (l.take (k + 1)).map c.ad.wto = (l.take k).map c.ad.wto ++ [⟨x, e.b.ws.length⟩] := by
    rw [List.take_add_one, hxk, Option.toList_some, List.map_append, List.map_cons, List.map_nil]
    simp only [Ad.wto, hat, Bk.ab, List.length_map]
  refine s_bsl ([⟨x, e.b.ws.length⟩] : List Wt) rfl rfl fun b1 => ?_
  refine sx ?_
  have hfl : ((l.take k).map c.ad.wto).length ≤ 65536 := by simp; omega
  refine s_app (ys := [(⟨x, e.b.ws.length⟩ : Wt)]) ?_
  intro a1 c1
  refine sx ?_
  refine s_again (k + 1, a1, c1) (by show k + 1 ≤ l.length; omega) (by show l.length - (k + 1) < l.length - k; omega) ?_ ?_
  · rw [htk]
    exact ⟨rfl, rfl, rfl, rfl, rfl, trivial⟩
  · show Ent _ (ol 43 a1 c1 ((l.take (k + 1)).map c.ad.wto) :: ol 3 a cc l :: c.on 1 H)
    rw [htk]
    exact Ent.tl (Ent.head (Ent.head (Cd.back hi)))
theorem off_s {c : Cd} : FnS Try.prog w0 (c.on 0 H) 16 #[.pointer (some ⟨c.b, 0, none⟩)] (fun v K => v = .bool c.off ∧ K = c.on 0 H) := by
  refine fns_enterD Try.func16 rfl rfl rfl ?_
  refine sx ?_
  refine s_call rfl lock_d ?_
  rintro _ _ ⟨rfl, rfl⟩
  refine ⟨chk_seq, ?_⟩
  refine sx ?_
  refine s_deferF [.pointer (some ⟨c.b, 0, none⟩)] rfl ?_
  refine sx ?_
  exact d_ret1 (c := c) rfl rfl ⟨rfl, rfl⟩
theorem size_s {c : Cd} {lk : Int} : FnS Try.prog w0 (c.on lk H) 33 #[.pointer (some ⟨c.b, 0, none⟩)] (fun v K => v = .int .i64 c.size ∧ K = c.on lk H) := by
  refine fns_enter Try.func33 rfl rfl rfl ?_
  refine sx ?_
  exact s_ret1 rfl rfl ⟨rfl, rfl⟩
set_option maxHeartbeats 1000000 in
theorem arm_s {c : Cd} {N : Nat} {n how : Int} {done : Bool} (hc : c.Ok N) (hn : I64 n) (hh : I64 how) : FnS Try.prog w0 (c.on 0 H) 20 #[.pointer (some ⟨c.b, 0, none⟩), .int .i64 n, .int .i64 how, .bool done] (fun v K =>
    ∃ c' : Cd, c'.b = c.b ∧ c'.Ok N ∧ c'.ad = c.ad.arm n how done ∧ v = .int .i64 (c.ad.aer n how) ∧ K = c'.on 0 H) := by
  refine fns_enterD Try.func20 rfl rfl rfl ?_
  refine sx ?_
  refine s_call rfl lock_d ?_
  rintro _ _ ⟨rfl, rfl⟩
  refine ⟨chk_seq, ?_⟩
  refine sx ?_
  refine s_deferF [.pointer (some ⟨c.b, 0, none⟩)] rfl ?_
  refine sx ?_
  refine s_cond rfl (fun t1 => ?_) (fun t1 => ?_)
  · refine sx ?_
    have e1 : c.ad.aer n how = 12 := if_pos t1
    have e2 : c.ad.arm n how done = c.ad := if_pos (by rw [e1]; decide)
    exact d_ret1 (c := c) rfl rfl ⟨c, rfl, hc, e2.symm, by rw [e1], rfl⟩
  have e0 : c.ad.aer n how = if n < 0 ∨ (how ≠ 0 ∧ how ≠ 1) then 1 else 0 := if_neg (by rw [show c.ad.off = false from t1]; simp)
  have bad : (n < 0 ∨ (how ≠ 0 ∧ how ≠ 1)) → c.ad.aer n how = 1 ∧ c.ad.arm n how done = c.ad := fun h => by
    have e1 : c.ad.aer n how = 1 := e0.trans (if_pos h)
    exact ⟨e1, if_pos (by rw [e1]; decide)⟩
  have good : ¬ (n < 0 ∨ (how ≠ 0 ∧ how ≠ 1)) → c.ad.aer n how = 0 ∧ c.ad.arm n how done = ({ c with armed := n, how := how, done := done } : Cd).ad := fun h => by
    have e1 : c.ad.aer n how = 0 := e0.trans (if_neg h)
    exact ⟨e1, if_neg (by rw [e1]; simp)⟩
  have ok : ¬ n < 0 → ({ c with armed := n, how := how, done := done } : Cd).Ok N := fun h => ⟨hc.nodup, hc.dom, hc.bk, ⟨by show 0 ≤ n; omega, hn.2⟩, hh, hc.sz, hc.nn⟩
  refine sx ?_
  refine s_lif rfl (fun h1 => ?_) (fun h1 => ?_)
  · refine sx ?_
    have e1 := bad (.inl h1)
    exact d_ret1 (c := c) rfl rfl ⟨c, rfl, hc, e1.2.symm, by rw [e1.1], rfl⟩
  refine sx ?_
  refine s_lifn rfl (fun h2 => ?_) (fun h2 => ?_)
  · refine sx ?_
    refine s_ifn rfl (fun h3 => ?_) (fun h3 => ?_)
    · refine sx ?_
      have e1 := bad (.inr ⟨h2, h3⟩)
      exact d_ret1 (c := c) rfl rfl ⟨c, rfl, hc, e1.2.symm, by rw [e1.1], rfl⟩
    · refine sx ?_
      have e1 := good (by rintro (h | h); exact h1 h; exact h.2 h3)
      exact d_ret1 (c := { c with armed := n, how := how, done := done }) rfl rfl ⟨{ c with armed := n, how := how, done := done }, rfl, ok h1, e1.2.symm, by rw [e1.1], rfl⟩
  · refine sx ?_
    have e1 := good (by rintro (h | h); exact h1 h; exact h.1 h2)
    exact d_ret1 (c := { c with armed := n, how := how, done := done }) rfl rfl ⟨{ c with armed := n, how := how, done := done }, rfl, ok h1, e1.2.symm, by rw [e1.1], rfl⟩
end Go.Sx
