/- Part of a proof: BranchDecodes, walked. -/
import Derived.Test.YtolnmecncilpeaaCBI
namespace Go.Sx
open Go Go.Proofs
set_option maxRecDepth 10000
variable {w0 : World} {H : List Ck}
theorem decD_bd (size : Int) (xs : Bs) : (decD size xs).1.length ≤ 65536 ∧ (decD size xs).2.length ≤ 65536 ∧ ∀ x ∈ (decD size xs).2, x.length ≤ 256 := by
  unfold decD
  rcases h : decK size xs with _ | d
  · simp
  · have hc : chkK size d = 0 := by
      unfold decK at h
      split at h
      · rcases hr : readK xs with _ | d2
        · rw [hr] at h; cases h
        · rw [hr] at h
          simp only [Option.bind_some] at h
          split at h
          · cases h; assumption
          · cases h
      · cases h
    obtain ⟨h1, ⟨h2, _, h3⟩, h4, _, _⟩ := chkK_0 hc
    have h5 := pg_bd h3
    refine ⟨h5, by simp only [Option.getD_some]; omega, fun x hx => ?_⟩
    have := (h4 x hx).2
    have := (sizedB_bd h1).2
    omega
/-- Children that are few, each key short. -/
structure Kd.few (k : Kd) : Prop where
  ps : k.ps.length ≤ 4294967296
  ks : k.ks.length ≤ 4294967296
  tot : k.keys.length ≤ 274877906944
  el : ∀ p ∈ k.ks, p.xs.length ≤ 140737488000000
theorem dec_few {size : Int} {xs : Bs} {k : Kd} (h : k.d = decD size xs) : k.few := by
  obtain ⟨h1, h2, h3⟩ := decD_bd size xs
  have e1 : k.ps = (decD size xs).1 := congrArg Prod.fst h
  have e2 : k.keys = (decD size xs).2 := congrArg Prod.snd h
  have e3 : k.ks.length = k.keys.length := by simp [Kd.keys]
  rw [← e1] at h1
  rw [← e2] at h2 h3
  refine ⟨by omega, by omega, by omega, fun p hp => ?_⟩
  have := h3 p.xs (List.mem_map.2 ⟨p, hp, rfl⟩)
  omega
/-- Three that came out, all few. -/
theorem ot_ok {b : Nat} {la wa : Option Addr} {lc wc : Nat} {x y z p q r : Kd} (h1 : x.few) (h2 : y.few) (h3 : z.few) (e1 : x.d = p.d) (e2 : y.d = q.d) (e3 : z.d = r.d) (r1 : RKd w0 H p) (r2 : RKd w0 H q) (r3 : RKd w0 H r) :
    Ot.Ok ⟨b, la, lc, [x, y, z], wa, wc, [p, q, r]⟩ H w0 := by
  have t1 := h1.tot
  have t2 := h2.tot
  have t3 := h3.tot
  simp only [Kd.keys, List.length_map] at t1 t2 t3
  refine ⟨rfl, by simp, ?_, ?_, ?_, ?_, ?_, ?_⟩
  · intro i k q' hk hq
    rcases i with _ | _ | _ | i
    · cases hk; cases hq; exact e1
    · cases hk; cases hq; exact e2
    · cases hk; cases hq; exact e3
    · simp at hk
  · intro k hk
    simp only [List.mem_cons, List.not_mem_nil, or_false] at hk
    rcases hk with rfl | rfl | rfl
    · exact h1.ps
    · exact h2.ps
    · exact h3.ps
  · intro k hk
    simp only [List.mem_cons, List.not_mem_nil, or_false] at hk
    rcases hk with rfl | rfl | rfl
    · exact h1.ks
    · exact h2.ks
    · exact h3.ks
  · simp only [List.flatMap_cons, List.flatMap_nil, List.append_nil, List.length_append]
    omega
  · intro p hp
    simp only [List.flatMap_cons, List.flatMap_nil, List.append_nil, List.mem_append] at hp
    rcases hp with hp | hp | hp
    · exact h1.el p hp
    · exact h2.el p hp
    · exact h3.el p hp
  · intro k hk
    simp only [List.mem_cons, List.not_mem_nil, or_false] at hk
    rcases hk with rfl | rfl | rfl
    · exact r1
    · exact r2
    · exact r3
theorem keep_e {b : Nat} {la wa : Option Addr} {lc wc : Nat} {ls ws ls' ws' : List Kd} {k q : Kd} (e1 : ls' = ls ++ [k]) (e2 : ws' = ws ++ [q]) (hl : ls.length ≤ 1048576 ∧ ws.length ≤ 1048576) (hk : RKd w0 H k) (hq : RKd w0 H q) (hd : k.d = q.d) :
    FnS Try.prog w0 (.hb b 27 [.slice la ls.length lc, .slice wa ws.length wc] :: ol 31 la lc ls :: ol 31 wa wc ws :: H) 15 #[.pointer (some ⟨b, 0, none⟩), .agg k.cells.toArray, .agg q.cells.toArray]
      (fun v H' => v = .bool true ∧ ∃ la lc wa wc, H' = .hb b 27 [.slice la ls'.length lc, .slice wa ws'.length wc] :: ol 31 la lc ls' :: ol 31 wa wc ws' :: H) := by
  subst e1
  subst e2
  exact keep_s (O := ⟨b, la, lc, ls, wa, wc, ws⟩) hl hk hq hd
set_option maxHeartbeats 1000000 in
theorem decodes_s {size : Int} {a a2 : Option Addr} {c c2 : Nat} {xs ys : Bs} (hx : RBy w0 H a c xs) (hy : RBy w0 H a2 c2 ys) (hl : xs.length ≤ 140737488351232 ∧ ys.length ≤ 140737488351232) :
    FnV Try.prog w0 H 4 #[.int .i64 size, .slice a xs.length c, .slice a2 ys.length c2] (.bool true) := by
  refine fns_enter Try.func4 rfl rfl rfl ?_
  refine sx ?_
  refine s_callV rfl alive_s ?_
  refine sx ?_
  refine s_boxA (cs := [.slice none 0 0, .slice none 0 0]) rfl fun b8 => ?_
  refine sx ?_
  refine s_bsl ([] : Bs) rfl rfl fun b26 => ?_
  refine sx ?_
  refine s_app ?_ (ys := xs)
  intro a28 c28
  refine s_bsl ([167] : Bs) rfl rfl fun b29 => ?_
  refine s_app ?_
  intro la lc
  have hll : (xs ++ [167]).length = xs.length + 1 := by simp
  refine s_rw (t := 30) (v' := .slice la (xs.length + 1) lc) rfl (by simp) ?_
  refine s_knL (Kn.by (a := la) (c := lc) (xs := xs ++ [167]) (by exact rby)) fun m1 => ?_
  refine sx ?_
  have hx2 : ∀ H', RBy w0 (ob la lc (xs ++ [167]) :: H') la lc xs := fun H' => by
    have := (RBy.hd (w0 := w0) (E := 5) (H := H') (a := la) (c := lc) (xs := xs ++ [167])).take (k := xs.length) (by simp)
    rwa [List.take_left' rfl] at this
  refine s_call rfl (bdecode_s (xs := xs) ((hx2 []).ent (by exact ent))) ?_
  rintro _ _ ⟨x, rfl, hxd, rfl⟩
  refine ⟨chk_seq, ?_⟩
  refine sx ?_
  refine s_alloc fun b10 => ?_
  refine sx ?_
  refine s_call rfl (bdecode_s (xs := ys) (by exact rby)) ?_
  rintro _ _ ⟨y, rfl, hyd, rfl⟩
  refine ⟨chk_seq, ?_⟩
  refine sx ?_
  refine s_alloc fun b12 => ?_
  refine sx ?_
  refine s_call rfl (bdecode_s (xs := xs) ((hx2 []).ent (by exact ent))) ?_
  rintro _ _ ⟨z, rfl, hzd, rfl⟩
  refine ⟨chk_seq, ?_⟩
  refine sx ?_
  refine s_alloc fun b14 => ?_
  refine sx ?_
  refine s_call rfl (rdecode_s (xs := xs) (by exact rby) hl.1) ?_
  rintro _ _ ⟨p, rfl, hpd, rfl⟩
  refine ⟨chk_seq, ?_⟩
  refine sx ?_
  refine s_alloc fun b16 => ?_
  refine sx ?_
  refine s_call rfl (rdecode_s (xs := ys) (by exact rby) hl.2) ?_
  rintro _ _ ⟨q, rfl, hqd, rfl⟩
  refine ⟨chk_seq, ?_⟩
  refine sx ?_
  refine s_alloc fun b18 => ?_
  refine sx ?_
  refine s_entL (.hb b8 27 [.slice none 0 0, .slice none 0 0] :: ol 31 none 0 ([] : List Kd) :: ol 31 none 0 ([] : List Kd) :: ob la lc (xs ++ [167]) :: .hb b18 31 q.cells :: oK q :: .hb b16 31 p.cells :: oK p :: .hb b14 31 z.cells :: oK z :: .hb b12 31 y.cells :: oK y :: .hb b10 31 x.cells :: oK x :: H) (Ent.trans (H' := .hb b8 27 [.slice none 0 0, .slice none 0 0] :: ob la lc (xs ++ [167]) :: .hb b18 31 q.cells :: oK q :: .hb b16 31 p.cells :: oK p :: .hb b14 31 z.cells :: oK z :: .hb b12 31 y.cells :: oK y :: .hb b10 31 x.cells :: oK x :: H) (by exact ent) (Ent.head (Ent.nilS.trans Ent.nilS))) ?_
  refine s_call rfl (keep_e (ls := []) (ws := []) (ls' := [x]) (ws' := [p]) rfl rfl ⟨by simp, by simp⟩ (by exact rkd) (by exact rkd) (hxd.trans hpd.symm)) ?_
  rintro _ _ ⟨rfl, la1, lc1, wa1, wc1, rfl⟩
  refine ⟨chk_seq, ?_⟩
  refine sx ?_
  refine s_call rfl (keep_e (ls := [x]) (ws := [p]) (ls' := [x, y]) (ws' := [p, q]) rfl rfl ⟨by simp, by simp⟩ (by exact rkd) (by exact rkd) (hyd.trans hqd.symm)) ?_
  rintro _ _ ⟨rfl, la2, lc2, wa2, wc2, rfl⟩
  refine ⟨chk_seq, ?_⟩
  refine sx ?_
  refine s_call rfl (keep_e (ls := [x, y]) (ws := [p, q]) (ls' := [x, y, z]) (ws' := [p, q, p]) rfl rfl ⟨by simp, by simp⟩ (by exact rkd) (by exact rkd) (hzd.trans hpd.symm)) ?_
  rintro _ _ ⟨rfl, la3, lc3, wa3, wc3, rfl⟩
  refine ⟨chk_seq, ?_⟩
  refine sx ?_
  have rp : RKd w0 (ob la lc (xs ++ [167]) :: oK q :: oK p :: H) p := by exact rkd
  have rq : RKd w0 (ob la lc (xs ++ [167]) :: oK q :: oK p :: H) q := by exact rkd
  have hok : Ot.Ok ⟨b8, la3, lc3, [x, y, z], wa3, wc3, [p, q, p]⟩ (ob la lc (xs ++ [167]) :: oK q :: oK p :: H) w0 := ot_ok (dec_few hxd) (dec_few hyd) (dec_few hzd) (hxd.trans hpd.symm) (hyd.trans hqd.symm) (hzd.trans hpd.symm) rp rq rp
  refine s_ent (.hb b8 27 [.slice la3 [x, y, z].length lc3, .slice wa3 [p, q, p].length wc3] :: ol 31 la3 lc3 [x, y, z] :: ol 31 wa3 wc3 [p, q, p] :: .star ([x, y, z].map oK) :: ob la lc (xs ++ [167]) :: oK q :: oK p :: H) (by
    refine Ent.cons (by exact rm) ?_
    refine Ent.cons (by exact rm) ?_
    refine Ent.cons (by exact rm) ?_
    exact Ent.trans (H' := oK x :: oK y :: oK z :: ob la lc (xs ++ [167]) :: oK q :: oK p :: H) (by exact ent) (Ent.star (L := [oK x, oK y, oK z]) Ent.refl)) ?_
  have hx3 := hx2 (oK q :: oK p :: H)
  refine sx ?_; refine s_drH (ob la lc (xs ++ [167]) :: oK q :: oK p :: H) (.one true 0 (.one true 1 (.one true 2 (.one true 3 (.one true 4 (.one true 5 (.one true 6 (.one true 7 (.one true 8 (.one true 9 (.one true 10 (.one true 11 (.one true 12 (.one true 13 (.one true 14 (.one true 15 (.one true 16 (.one true 17 (.one true 18 (.one true 19 (.one true 20 (.one true 21 (.one true 22 (.one true 23 (.one true 24 (.one true 25 (.one true 26 (.one true 27 (.one true 28 (.one true 29 (.one true 30 (.one true 31 (.one true 32 (.one true 33 (.one true 34 (.one true 35 (.one true 36 (.one true 37 (.one true 38 (.one true 39 (.one true 40 (.one true 41 (.one true 42 (.one true 43 (.one true 44 (.one false 45 (.one true 46 (.one true 47 .nil)))))))))))))))))))))))))))))))))))))))))))))))) mixed (by kernel_rfl) ?_; refine sx ?_
  refine s_rw (t := 115) (v' := .slice la (xs ++ [167]).length lc) rfl (by rw [hll]) ?_
  clear hx3 hx2
  have hgd : (xs ++ [167] : Bs).getD xs.length 0 = 167 := by simp [List.getD_eq_getElem?_getD]
  refine sx ?_
  refine s_rw (t := 120) (v' := .bool true) rfl (by rw [hgd]; simp) ?_
  refine sx ?_
  refine s_rw (t := 122) (v' := .bool true) rfl (by rw [hgd]; simp) ?_
  refine sx ?_
  refine s_call rfl (ends_s (O := ⟨b8, la3, lc3, [x, y, z], wa3, wc3, [p, q, p]⟩) (H := ob la lc (xs ++ [167]) :: oK q :: oK p :: H) hok) ?_
  rintro _ _ ⟨rfl, rfl⟩
  refine ⟨chk_held (by exact ent), ?_⟩
  refine sx ?_
  exact s_ret1 rfl rfl ⟨rfl, rfl⟩
end Go.Sx
