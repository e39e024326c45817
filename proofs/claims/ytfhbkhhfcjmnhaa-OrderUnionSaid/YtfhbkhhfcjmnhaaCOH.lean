/- Part of a proof: OrderUnion, walked. -/
import Derived.Test.YtfhbkhhfcjmnhaaCOE
import Derived.Test.YtfhbkhhfcjmnhaaCOG
import Derived.Test.YtfhbkhhfcjmnhaaCOCW
namespace Go.Sx
open Go Go.Proofs
set_option maxRecDepth 10000
variable {w0 : World} {H : List Ck}
section
variable {P : Program} {S : World → Prop} {l : List (Nat × Value)} {d : Option Tmp} {ty : TypeId} {pos : String} {af : Array Edge} {g : Option (Nat × Bool)}
theorem y_remT {x y : Operand} {T U : TypeId} {a c : Int} (hx : ev l x = some (.int .i64 a)) (hy : ev l y = some (.int .i64 c)) (h : 1 ≤ c) :
    Y P S ⟨d, .binOp .rem T x y U, ty, pos, af, g⟩ l (.int .i64 (a.tmod c)) := .mk fun w _ ρ hρ => by
  have hne : c ≠ 0 := by omega
  simp [execOp, hρ _ _ hx, hρ _ _ hy, eqGuard, binOp, Op.intDiv, hne]
end
structure TuI where
  k : Nat
  a : Option Addr
  c : Nat
  t : List Rg
theorem inU_congr {l m l' m' : List T3} {key : Bs} (h1 : inU l key ↔ inU l' key) (h2 : inU m key ↔ inU m' key) : inU (l ++ m) key ↔ inU (l' ++ m') key := by
  rw [inU_app, inU_app, h1, h2]
theorem tu_one {t D : List T3} {r : T3} (h : ∀ x, inU t x ↔ inU D x) (x : Bs) : inU (t ++ [r]) x ↔ inU (r :: D) x := by
  rw [show r :: D = [r] ++ D from rfl, inU_app, inU_app, h x, or_comm]
theorem tu_two {t D : List T3} {r : T3} {key : Bs} (h : ∀ x, inU t x ↔ inU D x) (hk : hasB r key = true) (x : Bs) : inU (t ++ [(key, r.2.1, r.2.2), (r.1, key, false)]) x ↔ inU (r :: D) x := by
  rw [show r :: D = [r] ++ D from rfl, show [(key, r.2.1, r.2.2), (r.1, key, false)] = [(key, r.2.1, r.2.2)] ++ [(r.1, key, false)] from rfl, inU_app, inU_app, inU_app, h x, inU_one, inU_one, inU_one, cut_two hk, or_comm]
set_option maxHeartbeats 2000000 in
theorem union_s {ls : List Rg} {key : Bs} {pr : Int} {a a' : Option Addr} {c c' : Nat} (hx : RSl w0 H a c ls) (hk : RBy w0 H a' c' key) (hn : ls.length ≤ 2513169434843) (hr : ∀ r ∈ ls, RRg w0 H r) (hb : ∀ r ∈ ls, Lr r) (hkl : key.length ≤ 140737488355328)
    : FnV Try.prog w0 H 6 #[.slice a ls.length c, .slice a' key.length c', .int .i64 pr] (.bool true) := by
  refine fns_enter Try.func6 rfl rfl rfl ?_
  refine sx ?_
  refine s_callV rfl awake_s ?_
  refine sx ?_
  refine s_call rfl (pcoverW_s (rs := ls) (by exact rsl) (by omega) hr hb) ?_
  rintro _ _ ⟨ca, cc, os, Lc, rfl, rfl, hol, hcv, hos, gos, hbo⟩
  refine ⟨chk_seq, ?_⟩
  have hsep := (sepR_iff.1 hcv.1)
  have hosH := hos H
  have hn1 := hn
  have hxs := hx.tl (d := .star Lc)
  have hks := hk.tl (d := .star Lc)
  refine sx ?_
  refine s_loop (fun i : Nat => [(0, .slice a ls.length c), (1, .slice a' key.length c'), (2, .int .i64 pr), (7, .bool true), (8, .slice ca os.length cc), (9, .int .i64 (((os.take i).countP (fun o => hasB o.d key) : Nat) : Int)), (10, .int .i64 i)]) (fun _ => .star Lc :: H) (fun i => i ≤ os.length) (fun i => os.length - i) 0 (Nat.zero_le _) ?_
  rintro i hi
  refine sx ?_
  refine s_if rfl (fun t1 => ?_) (fun t1 => ?_)
  · obtain ⟨o, hoi⟩ := get_lt os i (by omega)
    have hom := List.mem_of_getElem? hoi
    have ro := gos o hom H
    have hne := hsep.1 o.d (List.mem_map_of_mem hom)
    have hcl := List.countP_le_length (p := fun o => hasB o.d key) (l := os.take i)
    rw [List.length_take] at hcl
    have hc1 : (os.take (i + 1)).countP (fun o => hasB o.d key) = (os.take i).countP (fun o => hasB o.d key) + (if hasB o.d key = true then 1 else 0) := by
      rw [snocT hoi, List.countP_append, List.countP_cons, List.countP_nil, Nat.zero_add]
    refine sx ?_
    refine s_callV rfl (form_t (r := o) ro hne.1) ?_
    refine sx ?_
    refine s_callV rfl (oempty_s (r := o) ro) ?_
    rw [Bool.eq_false_iff.2 hne.2]
    refine sx ?_
    refine s_cut (fun _ : Unit => [(0, .slice a ls.length c), (1, .slice a' key.length c'), (2, .int .i64 pr), (7, .bool true), (8, .slice ca os.length cc), (9, .int .i64 (((os.take i).countP (fun o => hasB o.d key) : Nat) : Int)), (10, .int .i64 i), (73, .bool false)]) (fun _ => .star Lc :: H) (fun _ => True) ?_ ?_
    · refine sx ?_; refine s_dr (.one true 0 (.one true 1 (.one true 2 (.one true 3 (.one true 4 (.one true 5 (.one true 6 (.one true 7 (.one true 8 (.one true 9 (.one true 10 (.one true 11 (.one true 12 (.one true 13 (.one true 14 (.one true 15 (.one true 16 (.one true 17 (.one true 18 (.one true 19 (.one true 20 (.one true 21 (.one true 22 (.one true 23 (.one true 24 (.one true 25 (.one true 26 (.one false 27 (.one true 28 (.one true 29 (.one true 30 (.one true 31 .nil)))))))))))))))))))))))))))))))) mixed (by kernel_rfl) ?_; refine sx ?_
      refine s_lif rfl (fun p0 => ?_) (fun p0 => ?_)
      · obtain ⟨⟨pla, plc, plo, pha, phc, phi, pal⟩, hpi⟩ := get_lt os (i - 1) (by omega)
        have rp := gos _ (List.mem_of_getElem? hpi) H
        have hpw := hsep.2
        rw [List.pairwise_map, List.pairwise_iff_getElem] at hpw
        have hp := hpw (i - 1) i (by omega) (by omega) (by omega)
        obtain ⟨_, e1⟩ := List.getElem?_eq_some_iff.1 hpi
        obtain ⟨_, e2⟩ := List.getElem?_eq_some_iff.1 hoi
        rw [e1, e2] at hp
        obtain ⟨q1, q2⟩ := hp
        have q1 : pal = false := q1
        subst q1
        refine sx ?_
        refine s_callV rfl (compare_s (xs := phi) (ys := o.lo) rp.hi ro.lo) ?_
        refine sx ?_
        refine s_rwQ (t := 73) (v' := .bool false) rfl (by rw [decide_eq_false]; have q2 : cmp phi o.lo < 0 := q2; omega) ?_
        exact s_mid () trivial
      · refine sx ?_
        exact s_mid () trivial
    rintro ⟨⟩ -
    refine s_cF rfl rfl ?_
    refine sx ?_
    refine s_callV rfl (ohas_s (r := o) (key := key) ro (by exact rby)) ?_
    refine sx ?_
    refine s_cond rfl (fun t2 => ?_) (fun t2 => ?_)
    · refine sx ?_
      refine s_rwQ (t := 9) (v' := .int .i64 (((os.take (i + 1)).countP (fun o => hasB o.d key) : Nat) : Int)) rfl (ci (by rw [hc1, if_pos t2]; omega)) ?_
      exact s_again (i + 1) (by omega) (by omega)
    · refine sx ?_
      refine s_rwQ (t := 9) (v' := .int .i64 (((os.take (i + 1)).countP (fun o => hasB o.d key) : Nat) : Int)) rfl (ci (by rw [hc1, if_neg (by rw [t2]; decide)]; omega)) ?_
      exact s_again (i + 1) (by omega) (by omega)
  obtain rfl : i = os.length := by omega
  rw [List.take_length]
  have hcnt : os.countP (fun o => hasB o.d key) = (os.map Rg.d).countP (fun d => hasB d key) := by rw [List.countP_map]; rfl
  have hc1 := sep_count (key := key) hcv.1
  have hc2 := count_inU (c := os.map Rg.d) (key := key)
  rw [← hcnt] at hc1 hc2
  generalize os.countP (fun o => hasB o.d key) = cnt at hc1 hc2 ⊢
  refine sx ?_
  refine s_loop (fun i : Nat => [(0, .slice a ls.length c), (1, .slice a' key.length c'), (2, .int .i64 pr), (7, .bool true), (8, .slice ca os.length cc), (9, .int .i64 (cnt : Int)), (14, .bool ((ls.take i).any (fun o => hasB o.d key))), (15, .int .i64 i)]) (fun _ => .star Lc :: H) (fun i => i ≤ ls.length) (fun i => ls.length - i) 0 (Nat.zero_le _) ?_
  rintro i hi
  refine sx ?_
  refine s_if rfl (fun t1 => ?_) (fun t1 => ?_)
  · obtain ⟨r, hri⟩ := get_lt ls i (by omega)
    have rr := (hr r (List.mem_of_getElem? hri)).tl (d := .star Lc)
    have ha1 : (ls.take (i + 1)).any (fun o => hasB o.d key) = ((ls.take i).any (fun o => hasB o.d key) || hasB r.d key) := by
      rw [snocT hri, List.any_append, List.any_cons, List.any_nil, Bool.or_false]
    refine sx ?_
    refine s_callV rfl (ohas_s (r := r) (key := key) rr (by exact rby)) ?_
    refine sx ?_
    refine s_lsp rfl (fun t2 => ?_) (fun t2 => ?_)
    · refine sx ?_
      refine s_rwQ (t := 14) (v' := .bool ((ls.take (i + 1)).any (fun o => hasB o.d key))) rfl (by rw [ha1, t2]; rfl) ?_
      exact s_again (i + 1) (by omega) (by omega)
    · refine sx ?_
      refine s_rwQ (t := 14) (v' := .bool ((ls.take (i + 1)).any (fun o => hasB o.d key))) rfl (by rw [ha1, t2]; rfl) ?_
      exact s_again (i + 1) (by omega) (by omega)
  obtain rfl : i = ls.length := by omega
  rw [List.take_length]
  have hany : ls.any (fun o => hasB o.d key) = true ↔ inU (ls.map Rg.d) key := by
    rw [List.any_eq_true]
    constructor
    · rintro ⟨r, h1, h2⟩
      exact ⟨r.d, List.mem_map_of_mem h1, h2⟩
    · rintro ⟨d, h1, h2⟩
      obtain ⟨r, h3, rfl⟩ := List.mem_map.1 h1
      exact ⟨r, h3, h2⟩
  generalize ls.any (fun o => hasB o.d key) = any at hany ⊢
  refine sx ?_
  refine s_rwC (t := 18) (v' := .int .i64 ((ls.length : Int) - 1 - ((0 : Nat) : Int))) rfl (ci (by omega)) ?_
  refine s_loop (fun m : TuI => [(0, .slice a ls.length c), (1, .slice a' key.length c'), (2, .int .i64 pr), (7, .bool true), (8, .slice ca os.length cc), (9, .int .i64 (cnt : Int)), (14, .bool any), (17, .slice m.a m.t.length m.c), (18, .int .i64 ((ls.length : Int) - 1 - (m.k : Int)))]) (fun m => ol 26 m.a m.c m.t :: .star Lc :: H)
    (fun m => m.k ≤ ls.length ∧ 2 * m.t.length ≤ 3 * m.k + (if ((ls.length : Int) - 1 - (m.k : Int)) % 2 = pr.tmod 2 then 0 else 1) ∧ (∀ x, inU (m.t.map Rg.d) x ↔ inU ((ls.drop (ls.length - m.k)).map Rg.d) x) ∧ ∀ r ∈ m.t, RRg w0 H r ∧ Lr r) (fun m => ls.length - m.k) ⟨0, none, 0, []⟩ ⟨Nat.zero_le _, Nat.zero_le _, fun x => by rw [Nat.sub_zero, List.drop_length], fun r h => by cases h⟩ ?_
  rintro ⟨k, ta, tc, tl⟩ ⟨hk1, htl, htu, htr⟩
  simp only at hk1 htl htu htr ⊢
  refine sx ?_
  refine s_if rfl (fun t1 => ?_) (fun t1 => ?_)
  · obtain ⟨r, hri⟩ := get_lt ls (ls.length - 1 - k) (by omega)
    have hrm := List.mem_of_getElem? hri
    have rr := ((hr r hrm).tl (d := .star Lc)).tl (d := ol 26 ta tc tl)
    have hx2 := hxs.tl (d := ol 26 ta tc tl)
    have hk2 := hks.tl (d := ol 26 ta tc tl)
    have hdr : ls.drop (ls.length - (k + 1)) = r :: ls.drop (ls.length - k) := by
      obtain ⟨h1, h2⟩ := List.getElem?_eq_some_iff.1 hri
      rw [show ls.length - (k + 1) = ls.length - 1 - k by omega, List.drop_eq_getElem_cons h1, h2, show ls.length - 1 - k + 1 = ls.length - k by omega]
    refine s_rwC (t := 18) (v' := .int .i64 ((ls.length - 1 - k : Nat) : Int)) rfl (ci (by omega)) ?_
    refine sx ?_
    refine s_alloc fun b19 => ?_
    refine sx ?_
    refine s_callV rfl (ohas_s (r := r) (key := key) (by exact rrg) (by exact rby)) ?_
    refine sx ?_
    refine s_lsp rfl (fun t2 => ?_) (fun t2 => ?_)
    · refine sx ?_
      refine s_yS rfl rfl rfl (y_remT (c := 2) rfl rfl (by omega)) ?_
      refine sx ?_
      refine s_if rfl (fun t3 => ?_) (fun t3 => ?_)
      · refine sx ?_
        refine s_bsl [(⟨a', c', key, r.ha, r.hc, r.hi, r.all⟩ : Rg), (⟨r.la, r.lc, r.lo, a', c', key, false⟩ : Rg)] rfl rfl fun b1 => ?_
        have hby : ((tl.length + [(⟨a', c', key, r.ha, r.hc, r.hi, r.all⟩ : Rg), (⟨r.la, r.lc, r.lo, a', c', key, false⟩ : Rg)].length) + (tl.length + [(⟨a', c', key, r.ha, r.hc, r.hi, r.all⟩ : Rg), (⟨r.la, r.lc, r.lo, a', c', key, false⟩ : Rg)].length) / 4 + 192) * 56 ≤ 281474976710656 := by
          refine wide_ok ?_
          show tl.length + 2 ≤ _
          have : 2 * tl.length ≤ 3 * k + 1 := Nat.le_trans htl (by split <;> omega)
          omega
        refine s_appW (xs := tl) (ys := [(⟨a', c', key, r.ha, r.hc, r.hi, r.all⟩ : Rg), (⟨r.la, r.lc, r.lo, a', c', key, false⟩ : Rg)]) ?_ (hby := hby)
        intro a5 c5
        refine sx ?_
        refine s_rwQ (t := 18) (v' := .int .i64 ((ls.length : Int) - 1 - ((k + 1 : Nat) : Int))) rfl (ci (by omega)) ?_
        refine s_again ⟨k + 1, a5, c5, tl ++ [(⟨a', c', key, r.ha, r.hc, r.hi, r.all⟩ : Rg), (⟨r.la, r.lc, r.lo, a', c', key, false⟩ : Rg)]⟩ ⟨by simp only; omega, ?_, ?_, ?_⟩ (by simp only; omega)
        · have e0 : ((ls.length : Int) - 1 - (k : Int)) % 2 = pr.tmod 2 := by rw [← t3]; congr 1; omega
          have e1 : ¬ ((ls.length : Int) - 1 - ((k + 1 : Nat) : Int)) % 2 = pr.tmod 2 := by omega
          simp only [List.length_append, List.length_cons, List.length_nil]
          rw [if_neg e1]
          rw [if_pos e0] at htl
          omega
        · intro x
          simp only
          rw [hdr, List.map_append, List.map_cons]
          exact tu_two (r := r.d) htu t2 x
        · intro q hq
          simp only at hq
          have hrr := hr r hrm
          have hbr := hb r hrm
          rcases List.mem_append.1 hq with h | h
          · exact htr q h
          · simp only [List.mem_cons, List.not_mem_nil, or_false] at h
            rcases h with rfl | rfl
            · exact ⟨⟨hk, hrr.hi⟩, hkl, hbr.2⟩
            · exact ⟨⟨hrr.lo, hk⟩, hbr.1, hkl⟩
      · refine sx ?_
        refine s_bsl [r] rfl rfl fun b1 => ?_
        have hby : ((tl.length + [r].length) + (tl.length + [r].length) / 4 + 192) * 56 ≤ 281474976710656 := by
          refine wide_ok ?_
          show tl.length + 1 ≤ _
          have : 2 * tl.length ≤ 3 * k + 1 := Nat.le_trans htl (by split <;> omega)
          omega
        refine s_appW (xs := tl) (ys := [r]) ?_ (hby := hby)
        intro a5 c5
        refine sx ?_
        refine s_rwQ (t := 18) (v' := .int .i64 ((ls.length : Int) - 1 - ((k + 1 : Nat) : Int))) rfl (ci (by omega)) ?_
        refine s_again ⟨k + 1, a5, c5, tl ++ [r]⟩ ⟨by simp only; omega, ?_, ?_, ?_⟩ (by simp only; omega)
        · have : 2 * tl.length ≤ 3 * k + 1 := Nat.le_trans htl (by split <;> omega)
          simp only [List.length_append, List.length_cons, List.length_nil]
          omega
        · intro x
          simp only
          rw [hdr, List.map_append, List.map_cons]
          exact tu_one htu x
        · intro q hq
          simp only at hq
          rcases List.mem_append.1 hq with h | h
          · exact htr q h
          · rw [List.mem_singleton.1 h]
            exact ⟨hr r hrm, hb r hrm⟩
    · refine sx ?_
      refine s_bsl [r] rfl rfl fun b1 => ?_
      have hby : ((tl.length + [r].length) + (tl.length + [r].length) / 4 + 192) * 56 ≤ 281474976710656 := by
        refine wide_ok ?_
        show tl.length + 1 ≤ _
        have : 2 * tl.length ≤ 3 * k + 1 := Nat.le_trans htl (by split <;> omega)
        omega
      refine s_appW (xs := tl) (ys := [r]) ?_ (hby := hby)
      intro a5 c5
      refine sx ?_
      refine s_rwQ (t := 18) (v' := .int .i64 ((ls.length : Int) - 1 - ((k + 1 : Nat) : Int))) rfl (ci (by omega)) ?_
      refine s_again ⟨k + 1, a5, c5, tl ++ [r]⟩ ⟨by simp only; omega, ?_, ?_, ?_⟩ (by simp only; omega)
      · have : 2 * tl.length ≤ 3 * k + 1 := Nat.le_trans htl (by split <;> omega)
        simp only [List.length_append, List.length_cons, List.length_nil]
        omega
      · intro x
        simp only
        rw [hdr, List.map_append, List.map_cons]
        exact tu_one htu x
      · intro q hq
        simp only at hq
        rcases List.mem_append.1 hq with h | h
        · exact htr q h
        · rw [List.mem_singleton.1 h]
          exact ⟨hr r hrm, hb r hrm⟩
  obtain rfl : k = ls.length := by omega
  rw [Nat.sub_self, List.drop_zero] at htu
  have htl : 2 * tl.length ≤ 3 * ls.length + 1 := Nat.le_trans htl (by split <;> omega)
  have hos1 := hosH.tl (d := ol 26 ta tc tl)
  refine sx ?_
  refine s_call rfl (pcoverW_s (rs := os) hos1 (by omega) (fun o ho => (gos o ho H).tl) hbo) ?_
  rintro _ _ ⟨a2, c2, os2, L2, rfl, rfl, _, hcv2, hos2, gos2, _⟩
  refine ⟨chk_seq, ?_⟩
  refine sx ?_
  refine s_callV rfl (lsames_s (xs := os2) (ys := os) (hos2 _) hos1.tl (fun o ho => gos2 o ho _) (fun o ho => (gos o ho H).tl.tl)) ?_
  rw [decide_eq_true (hcv2.uniq hcv.self (fun _ => Iff.rfl))]
  refine sx ?_
  refine s_call rfl (pcoverW_s (rs := tl) (RSl.hd (E := 26)).tl (by omega) (fun o ho => (htr o ho).1.tl.tl.tl) (fun o ho => (htr o ho).2)) ?_
  rintro _ _ ⟨a3, c3, os3, L3, rfl, rfl, _, hcv3, hos3, gos3, _⟩
  refine ⟨chk_seq, ?_⟩
  refine sx ?_
  refine s_callV rfl (lsames_s (xs := os3) (ys := os) (hos3 _) hos1.tl.tl (fun o ho => gos3 o ho _) (fun o ho => (gos o ho H).tl.tl.tl)) ?_
  rw [decide_eq_true (hcv3.uniq hcv htu)]
  refine sx ?_
  refine s_gT rfl (by rw [decide_eq_true]; omega) ?_
  refine sx ?_
  refine s_ret1 rfl rfl ⟨congrArg Value.bool ?_, rfl⟩
  have h5 := hcv.2 key
  rw [beq_iff_eq, Bool.eq_iff_iff, decide_eq_true_eq, hany, ← h5, ← hc2]
  omega
end Go.Sx
