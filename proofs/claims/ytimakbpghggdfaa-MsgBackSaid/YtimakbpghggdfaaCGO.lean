/- The law MsgBack, walked. -/
import Derived.Test.YtimakbpghggdfaaCGM
import Derived.Test.YtimakbpghggdfaaCGN
namespace Go.Sx
open Go Go.Proofs
set_option maxRecDepth 10000
section
variable {P : Program} {S : World → Prop} {l : List (Nat × Value)} {d : Option Tmp} {ty : TypeId} {pos : String} {af : Array Edge} {g : Option (Nat × Bool)}
theorem y_andi {x y : Operand} {T U : TypeId} {a b : Int} (hx : ev l x = some (.int .i64 a)) (hy : ev l y = some (.int .i64 b)) :
    Y P S ⟨d, .binOp .and T x y U, ty, pos, af, g⟩ l (.int .i64 (Go.bits .and .i64 a b)) := .mk fun w _ ρ hρ => by
  simp [execOp, hρ _ _ hx, hρ _ _ hy, eqGuard, binOp, Op.intBits, Go.bits]
end
variable {w0 : World} {H : List Ck}
theorem RMs.stG {a : Option Addr} {c : Nat} {ms : List Mg} {H : List Ck} : RMs w0 (ol 32 a c ms :: stars oM ms :: H) a c ms := ⟨RSl.hd, fun m hm => ((RMg.oM (H := [])).ent (by rw [List.append_nil]; exact stars_mem hm)).tl⟩
theorem pow60 {i : Nat} : 1 * 2 ^ (i % 60) ≤ 9223372036854775807 := by
  have h : 2 ^ (i % 60) ≤ 2 ^ 60 := Nat.pow_le_pow_right (by omega) (by omega)
  have : (2 : Nat) ^ 60 = 1152921504606846976 := by decide
  omega
/-- How much messages have that may be. -/
theorem may_len {size : Int} {m : MD} (hs : sizedB size = true) (h : mayM size m = true) : lenM m ≤ 2048 := by
  have hb := sizedB_bd hs
  unfold mayM keyB at h
  unfold lenM
  split at h
  · simp only [Bool.and_eq_true, decide_eq_true_eq] at h; omega
  · split at h
    · simp only [Bool.and_eq_true, decide_eq_true_eq] at h; omega
    · split at h
      · simp only [Bool.and_eq_true, decide_eq_true_eq] at h; omega
      · cases h
theorem sum_len2 {l : List MD} (h : ∀ m ∈ l, lenM m ≤ 2048) : sumM l ≤ 2048 * l.length := by
  induction l with
  | nil => simp [sumM]
  | cons m r ih =>
    have h1 := ih fun x hx => h x (by simp [hx])
    have h2 := h m (by simp)
    simp only [sumM, List.map_cons, List.sum_cons, List.length_cons] at *
    omega
theorem chk_sum {size : Int} {l : List MD} (h : chkM size l = 0) (hl : l.length ≤ 4294967296) : sumM l ≤ 8796093022208 := by
  obtain ⟨h1, h2, _⟩ := chkM_iff.1 h
  have := sum_len2 fun m hm => may_len h1 (h2 m hm).1
  omega
theorem decM_few {size : Int} {xs : Bs} {l : List MD} (h : decM size xs = some l) : l.length ≤ 4294967296 := by
  unfold decM at h
  split at h
  · rename_i g
    cases h
    unfold srcM at *
    obtain ⟨_, l, k2, k3, _⟩ := loopS_back _ _ _ g.2.1
    rw [k2, List.nil_append, k3]
    have := numS_lt 4 (xs, false)
    omega
  · cases h
structure BaI where
  i : Nat
  a : Option Addr
  c : Nat
  ls : List Mg
set_option maxHeartbeats 4000000 in
theorem lback_s {size out : Int} {a ba : Option Addr} {c bc : Nat} {ms : List Mg} {r : Rg} {bs : Bs} (hsz : I64 size) (hx : RMs w0 H a c ms) (hr : RRg w0 H r) (hb : RBy w0 H ba bc bs) (hz : ∀ m ∈ ms, m.lo.length ≤ 140737488355327 ∧ m.hi.length ≤ 140737488355328 ∧ m.v.length ≤ 140737488355328) (hl1 : r.lo.length ≤ 140737488355328 ∧ r.hi.length ≤ 140737488355328) (hbl : bs.length ≤ 140737488355328) :
    FnV Try.prog w0 H 5 #[.int .i64 size, .slice a ms.length c, .int .i64 out, .agg r.cells.toArray, .slice ba bs.length bc] (.bool true) := by
  refine fns_enter Try.func5 rfl rfl rfl ?_
  have hsl := hx.sl
  have hrl := hr.lo
  have hrh := hr.hi
  refine s_kn (Kn.sl hsl) fun l1 => ?_
  simp only [maxLen] at l1
  refine sx ?_
  refine s_boxA rfl fun b8 => ?_
  refine sx ?_
  refine s_callV rfl lawake_s ?_
  refine sx ?_
  refine s_call rfl (lweights_s (ms := ms) (by exact rms) (fun m hm => ⟨by have := (hz m hm).1; omega, (hz m hm).2⟩)) ?_
  rintro _ _ ⟨x, rfl, hx0, hx1, rfl⟩
  refine ⟨chk_seq, ?_⟩
  refine sx ?_
  refine s_if rfl (fun t1 => ?_) (fun t1 => ?_)
  · refine sx ?_
    exact s_ret1 rfl rfl ⟨rfl, rfl⟩
  have hsum := hx1 (by omega)
  have hln := sumM_len (ms.map Mg.d)
  rw [List.length_map] at hln
  refine sx ?_
  refine s_callV rfl (mcheck_s (size := size) (ms := ms) (by exact rms)) ?_
  refine sx ?_
  refine s_call rfl (mencode_s (size := size) (ms := ms) (by exact rms) (by omega)) ?_
  rintro _ _ ⟨a2, c2, rfl, rfl⟩
  refine ⟨chk_seq, ?_⟩
  refine sx ?_
  refine s_call rfl (mdecode_s (size := size) (xs := bs) (by exact rby) hbl) ?_
  rintro _ _ ⟨a3, c3, ls, rfl, hls, rfl⟩
  refine ⟨chk_seq, ?_⟩
  refine sx ?_
  refine s_cut (ι := Unit) (fun _ => [(0, .int .i64 size), (1, .slice a ms.length c), (2, .int .i64 out), (8, .pointer (some ⟨b8, 0, none⟩)), (12, .int .i64 (chkM size (ms.map Mg.d))), (13, .slice a2 (encL size (ms.map Mg.d)).length c2), (11, .bool true)]) (fun _ => ob a2 c2 (encL size (ms.map Mg.d)) :: .hb b8 39 r.cells :: H) (fun _ => True) ?_ (fun _ _ => ?_)
  · refine s_if rfl (fun t2 => ?_) (fun t2 => ?_)
    · obtain ⟨l, hl⟩ := decME_0 t2
      obtain ⟨hc, hb2⟩ := decM_back hl
      rw [hl] at hls
      have hls : ls.map Mg.d = l := hls
      have hcl : chkM size (ls.map Mg.d) = 0 := by rw [hls]; exact hc
      have hel : encL size (ls.map Mg.d) = bs := by rw [hls, encL, if_pos hc, hb2]
      have hsl : sumM (ls.map Mg.d) ≤ 8796093022208 := by rw [hls]; exact chk_sum hc (decM_few hl)
      have hby : (bytesM (ls.map Mg.d) : Nat) = bs.length := by rw [hls, ← layM_len, hb2]
      have hrs : RMs w0 (ol 32 a3 c3 ls :: stars oM ls :: ob a2 c2 (encL size (ms.map Mg.d)) :: .hb b8 39 r.cells :: H) a3 c3 ls := RMs.stG
      refine sx ?_
      refine s_call rfl (mencode_s (size := size) (ms := ls) hrs (by omega)) ?_
      rintro _ _ ⟨a4, c4, rfl, rfl⟩
      refine ⟨chk_seq, ?_⟩
      rw [hcl, hel]
      refine sx ?_
      refine s_callV rfl (mbytes_s (ms := ls) (by exact rsl) (by omega)) ?_
      rw [hby]
      refine sx ?_
      exact s_mid () trivial (he := Ent.tl (Ent.tl (Ent.tl Ent.refl)))
    · refine sx ?_
      exact s_mid () trivial (he := Ent.tl (Ent.tl Ent.refl))
  refine sx ?_
  refine s_ifn rfl (fun t3 => ?_) (fun t3 => ?_)
  · have e0 : encL size (ms.map Mg.d) = [] := if_neg t3
    rw [e0]
    refine sx ?_
    exact s_ret1 rfl rfl ⟨rfl, rfl⟩
  have e0 : encL size (ms.map Mg.d) = layM (ms.map Mg.d) := if_pos t3
  have hly := layM_len (ms.map Mg.d)
  obtain ⟨hd1, hd2⟩ := decM_lay t3 (by rw [List.length_map]; omega)
  have hby0 : bytesM (ms.map Mg.d) = 4 + sumM (ms.map Mg.d) := rfl
  rw [e0, t3]
  generalize layM (ms.map Mg.d) = es at hly hd1 hd2 ⊢
  refine sx ?_
  refine s_call rfl (mdecode_s (size := size) (xs := es) (by exact rby) (by omega)) ?_
  rintro _ _ ⟨a5, c5, ns, rfl, hns, rfl⟩
  rw [hd1] at hns
  have hns : ns.map Mg.d = ms.map Mg.d := hns
  rw [hd2]
  refine ⟨chk_seq, ?_⟩
  refine sx ?_
  refine s_callV rfl (mbytes_s (ms := ms) (by exact rsl) (by omega)) ?_
  rw [← hly]
  refine sx ?_
  have hrn : RMs w0 (ol 32 a5 c5 ns :: stars oM ns :: ob a2 c2 es :: .hb b8 39 r.cells :: H) a5 c5 ns := RMs.stG
  refine s_callV rfl (lsameMs_s (xs := ns) (ys := ms) hrn (by exact rms)) ?_
  rw [decide_eq_true hns]
  refine sx ?_
  refine s_loop (fun q : BaI => [(0, .int .i64 size), (1, .slice a ms.length c), (2, .int .i64 out), (8, .pointer (some ⟨b8, 0, none⟩)), (21, .slice q.a q.ls.length q.c), (22, .int .i64 q.i)]) (fun q => ol 32 q.a q.c q.ls :: .hb b8 39 r.cells :: H) (fun q => q.i ≤ ms.length ∧ q.ls.Sublist (ms.take q.i)) (fun q => ms.length - q.i) ⟨0, none, 0, []⟩ ⟨Nat.zero_le _, List.nil_sublist _⟩ ?_ (he := Ent.trans (H' := .hb b8 39 r.cells :: H) (by exact ent) Ent.nilS)
  rintro ⟨i, oa, oc, os⟩ ⟨g1, g2⟩
  simp only at g1 g2 ⊢
  refine sx ?_
  refine s_if rfl (fun t4 => ?_) (fun t4 => ?_)
  · obtain ⟨m, hm⟩ := get_lt ms i (by omega)
    have gl := g2.length_le
    rw [List.length_take] at gl
    refine sx ?_
    refine s_rw (t := 111) (v' := .int .i64 ((i % 60 : Nat) : Int)) rfl (ci (by omega)) ?_
    refine s_yS rfl rfl rfl (y_shlv (a := 1) (m := i % 60) rfl rfl (by omega) pow60) ?_
    refine s_yS rfl rfl rfl (y_andi rfl rfl) ?_
    refine sx ?_
    refine s_if rfl (fun t5 => ?_) (fun t5 => ?_)
    · refine sx ?_
      refine s_bsl [m] rfl rfl fun b119 => ?_
      refine s_app (xs := os) (ys := [m]) ?_ (hby := by simp only [List.length_cons, List.length_nil]; omega)
      intro a4 c4
      refine sx ?_
      refine s_again ⟨i + 1, a4, c4, os ++ [m]⟩ ⟨by simp only; omega, ?_⟩ (by simp only; omega)
      rw [snocT hm]
      exact g2.append (List.Sublist.refl _)
    · refine sx ?_
      refine s_again ⟨i + 1, oa, oc, os⟩ ⟨by simp only; omega, ?_⟩ (by simp only; omega)
      rw [snocT hm]
      exact g2.trans (List.sublist_append_left _ _)
  obtain rfl : i = ms.length := by omega
  rw [List.take_of_length_le (Nat.le_refl _)] at g2
  have hsz := (chkM_iff.1 t3).1
  have hsb := sizedB_bd hsz
  have hos : chkM size (os.map Mg.d) = 0 := chkM_sub t3 (g2.map _)
  have hro : RMs w0 (ol 32 oa oc os :: .hb b8 39 r.cells :: H) oa oc os := ⟨RSl.hd, fun m hm => (hx.el m (g2.subset hm)).tl.tl⟩
  refine sx ?_
  refine s_call rfl (msettle_s (ms := ms) (by exact rms) (by omega) hz) ?_
  rintro _ _ ⟨sa, sc, ss, rfl, hss, rfl⟩
  refine ⟨chk_seq, ?_⟩
  refine sx ?_
  refine s_callV rfl (mcheck_s (size := size) (ms := ss) RMs.stG) ?_
  rw [hss, chkM_setl t3]
  refine sx ?_
  refine s_call rfl (mwithin_s (ms := ms) (r := r) (by exact rms) (by exact rrg) (by omega) hz hl1) ?_
  rintro _ _ ⟨wa, wc, ws, rfl, hws, rfl⟩
  refine ⟨chk_seq, ?_⟩
  refine sx ?_
  refine s_callV rfl (mcheck_s (size := size) (ms := ws) RMs.stG) ?_
  rw [hws]
  have hro2 : RMs w0 (ol 32 wa wc ws :: stars oM ws :: ol 32 sa sc ss :: stars oM ss :: ol 32 oa oc os :: .hb b8 39 r.cells :: H) oa oc os := hro.tl.tl.tl.tl
  refine sx ?_
  refine s_lif rfl (fun t6 => ?_) (fun t6 => ?_)
  · refine sx ?_
    refine s_callV rfl (mcheck_s (size := size) (ms := os) hro2) ?_
    rw [hos]
    refine sx ?_
    refine s_lifn rfl (fun t7 => ?_) (fun t7 => ?_)
    · refine sx ?_
      exact s_ret1 rfl rfl ⟨rfl, rfl⟩
    · rw [chkM_within ⟨t6, t7⟩ t3]
      refine sx ?_
      exact s_ret1 rfl rfl ⟨rfl, rfl⟩
  · refine sx ?_
    refine s_callV rfl (mcheck_s (size := size) (ms := os) hro2) ?_
    rw [hos]
    refine sx ?_
    exact s_ret1 rfl rfl ⟨rfl, rfl⟩
end Go.Sx
