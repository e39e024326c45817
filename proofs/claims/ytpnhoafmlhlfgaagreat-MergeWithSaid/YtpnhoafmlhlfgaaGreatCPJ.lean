/- Part of a proof: MergeWith, walked. -/
import Derived.Test.YtpnhoafmlhlfgaaGreatCPC
import Derived.Test.YtpnhoafmlhlfgaaGreatCZI
import Derived.Test.YtpnhoafmlhlfgaaGreatCMUj
namespace Go.Sx
open Go Go.Proofs
set_option maxRecDepth 10000
variable {w0 : World} {H : List Ck}
theorem gweight_s {m : Mg} (h1 : m.lo.length ≤ 140737488355328) (h2 : m.hi.length ≤ 140737488355328) (h3 : m.v.length ≤ 140737488355328) : FnV Tryz.prog w0 H 42 #[.agg m.cells.toArray] (.int .i64 (lenM m.d : Nat)) := by
  refine fns_enter Tryz.func42 rfl rfl rfl ?_
  have e : lenM m.d = 13 + m.lo.length + m.hi.length + m.v.length := rfl
  refine sx ?_
  refine s_boxA rfl fun b1 => ?_
  refine sx ?_
  exact s_ret1 rfl rfl ⟨ci (by omega), rfl⟩
theorem gweights_s {a : Option Addr} {c : Nat} {ms : List Mg} (hx : RMs w0 H a c ms) (hz : ∀ m ∈ ms, m.lo.length ≤ 140737488355328 ∧ m.hi.length ≤ 140737488355328 ∧ m.v.length ≤ 140737488355328) :
    FnS Tryz.prog w0 H 18 #[.slice a ms.length c] (fun v H' => ∃ x : Int, v = .int .i64 x ∧ (0 ≤ x ∧ x ≤ 1125899906842624) ∧ (x ≤ 2147483647 → x = (sumM (ms.map Mg.d) : Nat)) ∧ H' = H) := by
  refine fns_enter Tryz.func18 rfl rfl rfl ?_
  have hsl := hx.sl
  refine s_kn (Kn.sl hsl) fun l1 => ?_
  simp only [maxLen] at l1
  refine sx ?_
  refine s_loop (fun i : Nat × Int => [(0, .slice a ms.length c), (3, .int .i64 i.2), (4, .int .i64 i.1)]) (fun _ => H) (fun i => i.1 ≤ ms.length ∧ (0 ≤ i.2 ∧ i.2 ≤ 1125899906842624) ∧ (i.2 ≤ 2147483647 → i.2 = (sumM ((ms.map Mg.d).take i.1) : Nat))) (fun i => ms.length - i.1) (0, 0) ⟨Nat.zero_le _, by simp only; omega, fun _ => by simp [sumM]⟩ ?_
  rintro ⟨i, x⟩ ⟨h1, h2, h3⟩
  simp only at h1 h2 h3 ⊢
  refine sx ?_
  refine s_lif rfl (fun t1 => ?_) (fun t1 => ?_)
  · obtain ⟨m, hm⟩ := get_lt ms i (by omega)
    obtain ⟨z1, z2, z3⟩ := hz m (List.mem_of_getElem? hm)
    have hst := sumM_get (get_map (f := Mg.d) hm)
    have e : lenM m.d = 13 + m.lo.length + m.hi.length + m.v.length := rfl
    refine sx ?_
    refine s_if rfl (fun t2 => ?_) (fun t2 => ?_)
    · refine sx ?_
      refine s_callV rfl (gweight_s (m := m) z1 z2 z3) ?_
      refine sx ?_
      refine s_again (i + 1, x + (lenM m.d : Nat)) ⟨by simp only; omega, by simp only; omega, fun _ => ?_⟩ (by simp only; omega)
      have := h3 t2
      simp only
      omega
    · refine sx ?_
      exact s_ret1 rfl rfl ⟨x, rfl, h2, fun h => absurd h t2, rfl⟩
  · obtain rfl : i = ms.length := by omega
    rw [List.take_of_length_le (by simp)] at h3
    refine sx ?_
    exact s_ret1 rfl rfl ⟨x, rfl, h2, h3, rfl⟩
abbrev MzL (ms : List Mg) : Prop := ∀ m ∈ ms, m.lo.length ≤ 140737488355327 ∧ m.hi.length ≤ 140737488355328 ∧ m.v.length ≤ 140737488355328
theorem wi_tv {b2 b5 c : Nat} {a : Option Addr} {ms : List Mg} {v : Value} {g : Ck} {L : List Pp} (hT : TvC Tryz.prog w0 g v L) (hsm : SmL L) (hl : ms.length ≤ 137438953472) (hz : MzL ms) :
    TvC Tryz.prog w0 (wiG b2 b5 v a c ms g) (.func (.func 44) #[] #[.pointer (some ⟨b5, 0, none⟩), .pointer (some ⟨b2, 0, none⟩)]) (wiM (ms.map Mg.d) L) := by
  refine ⟨44, [.pointer (some ⟨b5, 0, none⟩), .pointer (some ⟨b2, 0, none⟩)], rfl, inferInstance, ?_⟩
  have h := with_tell (b2 := b2) (b5 := b5) (a := a) (c := c) (.inr hT) hsm hl hz
  have e : (fun u => wiG b2 b5 v a c ms (fam2 g (fun _ => g) u)) = fun _ => wiG b2 b5 v a c ms g := by
    funext u
    cases u <;> rfl
  rw [e] at h
  exact h
theorem wn_tv {b2 b3 : Nat} {r : Rg} {v : Value} {g : Ck} {L : List Pp} (hT : TvC Tryz.prog w0 g v L) (hsm : SmL L) :
    TvC Tryz.prog w0 (wnG b2 b3 v r g) (.func (.func 48) #[] #[.pointer (some ⟨b3, 0, none⟩), .pointer (some ⟨b2, 0, none⟩)]) (inL r.d L) :=
  ⟨48, [.pointer (some ⟨b3, 0, none⟩), .pointer (some ⟨b2, 0, none⟩)], rfl, inferInstance, within_tell (.inr hT) hsm⟩
theorem wi_ent {b2 b5 c : Nat} {a : Option Addr} {ms : List Mg} {v : Value} {g : Ck} {R : List Ck} : Ent (wiL b2 b5 v a c ms ++ g :: R) (wiG b2 b5 v a c ms g :: R) := Ent.star Ent.refl
theorem wi_out {b2 b5 c : Nat} {a : Option Addr} {ms : List Mg} {v : Value} {g : Ck} {R : List Ck} : Ent (wiG b2 b5 v a c ms g :: R) (g :: R) := Ent.open (Ent.tl (Ent.tl (Ent.tl (Ent.tl Ent.refl))))
theorem wn_ent {b2 b3 : Nat} {r : Rg} {v : Value} {g : Ck} {R : List Ck} : Ent (wnL b2 b3 v r ++ g :: R) (wnG b2 b3 v r g :: R) := Ent.star Ent.refl
theorem wn_out {b2 b3 : Nat} {r : Rg} {v : Value} {g : Ck} {R : List Ck} : Ent (wnG b2 b3 v r g :: R) (g :: R) := Ent.open (Ent.tl (Ent.tl (Ent.tl Ent.refl)))
theorem mz_d {ls ms : List Mg} (h : ls.map Mg.d = ms.map Mg.d) (hz : MzL ms) : MzL ls ∧ ls.length = ms.length := by
  refine ⟨fun m hm => ?_, by simpa using congrArg List.length h⟩
  have h1 : m.d ∈ ms.map Mg.d := by rw [← h]; exact List.mem_map_of_mem hm
  obtain ⟨m', h2, h3⟩ := List.mem_map.1 h1
  have h4 := hz m' h2
  simp only [Mg.d, MD.mk.injEq] at h3
  rw [← h3.2.2.1, ← h3.2.2.2.1, ← h3.2.2.2.2]
  exact h4
theorem sumM_memG {l : List MD} {m : MD} (h : m ∈ l) : lenM m ≤ sumM l := by
  induction l with
  | nil => cases h
  | cons a l ih =>
    simp only [sumM, List.map_cons, List.sum_cons] at *
    rcases List.mem_cons.1 h with rfl | h
    · omega
    · have := ih h
      omega
theorem RMs.stP {a : Option Addr} {c : Nat} {ms : List Mg} {H : List Ck} : RMs w0 (ol 71 a c ms :: stars oM ms :: H) a c ms := ⟨RSl.hd, fun m hm => ((RMg.oM (H := [])).ent (by rw [List.append_nil]; exact stars_mem hm)).tl⟩
/-- Entries of one's own, with their bytes. -/
@[reducible] def oL (a : Option Addr) (c : Nat) (out : List KV) (H : List Ck) : List Ck := ol 51 a c out :: stars oKVs out :: H
/-- A telling that is made: its list, and its memory, out of which the older one comes again. -/
abbrev MkR (w0 : World) (L : List Pp) (g : Ck) (H : List Ck) : Value → List Ck → Prop := fun v' H' => v'.oneCell' = true ∧ ∃ g', TvC Tryz.prog w0 g' v' L ∧ (∀ R, Ent (g' :: R) (g :: R)) ∧ H' = g' :: H
theorem withG_s {v : Value} {g : Ck} {L : List Pp} {a : Option Addr} {c : Nat} {ms : List Mg} (hT : TvC Tryz.prog w0 g v L) (hv : v.oneCell' = true) (hsm : SmL L) (hm : RMs w0 H a c ms) (hl : ms.length ≤ 137438953472) (hz : MzL ms) :
    FnS Tryz.prog w0 (g :: H) 20 #[v, .slice a ms.length c] (MkR w0 (wiM (ms.map Mg.d) L) g H) := by
  refine FnS.post (with_s hv (ms := ms) hm.tl hl (fun m h => by have := hz m h; omega)) ?_
  rintro _ _ ⟨p2, p5, pa, pc, ps, rfl, hps, rfl⟩
  obtain ⟨hzp, hpl⟩ := mz_d hps hz
  have hW := wi_tv (b2 := p2) (b5 := p5) (a := pa) (c := pc) hT hsm (by omega) hzp
  rw [hps] at hW
  exact ⟨_, ⟨rfl, _, hW, fun _ => wi_out, rfl⟩, wi_ent⟩
theorem withinG_s {v : Value} {g : Ck} {L : List Pp} {r : Rg} (hT : TvC Tryz.prog w0 g v L) (hv : v.oneCell' = true) (hsm : SmL L) (hr : RRg w0 H r) (h1 : r.lo.length ≤ 140737488355328) (h2 : r.hi.length ≤ 140737488355328) :
    FnS Tryz.prog w0 (g :: H) 21 #[v, .agg r.cells.toArray] (MkR w0 (inL r.d L) g H) := by
  refine FnS.post (gwithin_s hv (r := r) hr.tl h1 h2) ?_
  rintro _ _ ⟨b2, b3, q, rfl, hq, rfl⟩
  have hW := wn_tv (b2 := b2) (b3 := b3) (r := q) hT hsm
  rw [hq] at hW
  exact ⟨_, ⟨rfl, _, hW, fun _ => wn_out, rfl⟩, wn_ent⟩
theorem allG_s {v : Value} {g : Ck} {L : List Pp} (hT : TvC Tryz.prog w0 g v L) (hsm : SmL L) (hl : L.length ≤ 549755813888) :
    FnS Tryz.prog w0 (g :: H) 12 #[v, .int .i64 (-1)] (fun v' H' => ∃ a c out, v' = .slice a (out : List KV).length c ∧ out.map KV.p = L ∧ H' = g :: ol 51 a c out :: stars oKVs out :: H) := by
  refine FnS.post (all_s (most := -1) (.inr hT) hl hsm) ?_
  rintro _ _ ⟨x, y, o, rfl, h, rfl⟩
  rw [tk_all] at h
  rw [allG_same]
  exact ⟨_, ⟨x, y, o, rfl, h, rfl⟩, by exact ent⟩
set_option maxHeartbeats 4000000 in
theorem gwith_s {a b d : Option Addr} {c f g : Nat} {es : List KV} {ms ns : List Mg} {r : Rg} (hx : RSl w0 H a c es) (hr : ∀ e ∈ es, REe w0 H e) (hm : RMs w0 H b f ms) (hn : RMs w0 H d g ns) (hrr : RRg w0 H r)
    (hy : ∀ e ∈ es, e.k.length ≤ 140737488355328 ∧ e.v.length ≤ 140737488355328) (hzm : MzL ms) (hzn : MzL ns) (hrl : r.lo.length ≤ 140737488355327 ∧ r.hi.length ≤ 140737488355327) :
    FnS Tryz.prog w0 H 4 #[.slice a es.length c, .slice b ms.length f, .slice d ns.length g, .agg r.cells.toArray] (fun v H' => v = .bool true ∧ H' = H) := by
  refine fns_enter Tryz.func4 rfl rfl rfl ?_
  refine sx ?_
  refine s_boxA rfl fun b7 => ?_
  refine sx ?_
  refine s_callV rfl gawake_s ?_
  refine sx ?_
  refine s_call rfl (gentries_s hx.tl hy) ?_
  rintro _ H2 ⟨x1, rfl, hx1, hx2, hH⟩
  rw [hH]
  clear hH
  refine ⟨chk_seq, ?_⟩
  refine sx ?_
  refine s_lif rfl (fun t1 => ?_) (fun t1 => ?_)
  · refine sx ?_
    exact s_ret1 rfl rfl ⟨rfl, rfl⟩
  refine sx ?_
  refine s_call rfl (gweights_s hm.tl (fun m h => by have := hzm m h; omega)) ?_
  rintro _ H2 ⟨x2, rfl, hx3, hx4, hH⟩
  rw [hH]
  clear hH
  refine ⟨chk_seq, ?_⟩
  refine sx ?_
  refine s_call rfl (gweights_s hn.tl (fun m h => by have := hzn m h; omega)) ?_
  rintro _ H2 ⟨x3, rfl, hx5, hx6, hH⟩
  rw [hH]
  clear hH
  refine ⟨chk_seq, ?_⟩
  refine sx ?_
  refine s_if rfl (fun t2 => ?_) (fun t2 => ?_)
  · refine sx ?_
    exact s_ret1 rfl rfl ⟨rfl, rfl⟩
  have hz1 : sumG es ≤ 2147483647 := by have := hx2 (by omega); omega
  have hz2 : sumM (ms.map Mg.d) ≤ 2147483647 := by have := hx4 (by omega); omega
  have hz3 : sumM (ns.map Mg.d) ≤ 2147483647 := by have := hx6 (by omega); omega
  have hl1 := sumG_len es
  have hl2 := sumM_len (ms.map Mg.d)
  have hl3 := sumM_len (ns.map Mg.d)
  rw [List.length_map] at hl2 hl3
  clear hx1 hx2 hx3 hx4 hx5 hx6 t1 t2
  refine sx ?_
  refine s_call rfl (rmap_s (es := es) (by omega) hx.tl (fun e he => (hr e he).tl) hy) ?_
  rintro _ _ ⟨ma, mc, out, so, rfl, hM, ho, rfl⟩
  refine ⟨chk_seq, ?_⟩
  obtain ⟨hri, hget⟩ := map_says hM ho
  have hol : out.length ≤ es.length := by
    have h1 := congrArg List.length ho
    rw [List.length_map, List.length_map] at h1
    have h2 := (lasts_sub so).length_le
    have h3 := hM.st.len
    omega
  have hosm : SmL (out.map KV.p) := by
    intro p hp
    rw [ho] at hp
    obtain ⟨e, he, rfl⟩ := List.mem_map.1 hp
    exact hy e (hM.st.perm.mem_iff.2 ((lasts_sub so).subset he))
  clear ho hM
  refine s_call rfl (Of_s (es := out) RSl.hd (fun e he => (REe.st he).tl) (by omega) hosm) ?_
  rintro _ _ ⟨u1, ua1, uc1, o1, rfl, ho1, rfl⟩
  refine ⟨chk_seq, ?_⟩
  obtain ⟨L, hL⟩ : ∃ L, L = out.map KV.p := ⟨_, rfl⟩
  have hlL : L.length ≤ es.length := by rw [hL, List.length_map]; exact hol
  rw [← hL] at hri hget hosm ho1
  have hA : TvC Tryz.prog w0 (ofG u1 ua1 uc1 o1) (.func (.func 43) #[] #[.pointer (some ⟨u1, 0, none⟩)]) L := by
    rw [← ho1]
    exact ⟨43, [.pointer (some ⟨u1, 0, none⟩)], rfl, inferInstance, of_tell (by rw [ho1]; exact hosm)⟩
  obtain ⟨G, hG⟩ : ∃ g, g = ofG u1 ua1 uc1 o1 := ⟨_, rfl⟩
  rw [← hG] at hA ⊢
  refine s_entL (G :: .hb b7 57 r.cells :: H) (by exact ent) ?_
  clear hG hL ho1 hol
  obtain ⟨V, hV⟩ : ∃ v, v = Value.func (.func 43) #[] #[.pointer (some ⟨u1, 0, none⟩)] := ⟨_, rfl⟩
  have hV1 : V.oneCell' = true := by rw [hV]; rfl
  rw [← hV] at hA ⊢
  clear hV
  -- both lists of messages, one behind the other
  have hms := hm.sl
  have hns := hn.sl
  refine sx ?_
  refine s_entL (ol 71 none 0 ([] : List Mg) :: G :: .hb b7 57 r.cells :: H) Ent.nilS ?_
  refine s_app (xs := ([] : List Mg)) (ys := ms) ?_ (hby := by simp only [List.length_nil]; omega)
  intro a4 c4
  refine sx ?_
  refine s_app (xs := [] ++ ms) (ys := ns) ?_ (hby := by simp only [List.nil_append]; omega)
  intro a5 c5
  rw [List.nil_append]
  refine sx ?_
  refine s_entL (G :: .hb b7 57 r.cells :: ol 71 a5 c5 (ms ++ ns) :: H) (by exact ent) ?_
  have hboth : RMs w0 (ol 71 a5 c5 (ms ++ ns) :: H) a5 c5 (ms ++ ns) := ⟨RSl.hd, fun m h => (List.mem_append.1 h).elim (fun h => (hm.el m h).tl) (fun h => (hn.el m h).tl)⟩
  have hzb : MzL (ms ++ ns) := fun m h => (List.mem_append.1 h).elim (hzm m) (hzn m)
  have hdb : (ms ++ ns).map Mg.d = ms.map Mg.d ++ ns.map Mg.d := List.map_append
  have hlb : (ms ++ ns).length = ms.length + ns.length := List.length_append
  have smd : ∀ {l : List Mg}, MzL l → ∀ m ∈ l.map Mg.d, m.lo.length ≤ 140737488355328 ∧ m.v.length ≤ 140737488355328 := fun {l} h m hm => by
    obtain ⟨m', h1, rfl⟩ := List.mem_map.1 hm
    have := h m' h1
    exact ⟨by show m'.lo.length ≤ _; omega, this.2.2⟩
  have lim : ∀ {l : List Mg}, l.length ≤ ms.length + ns.length → l.length ≤ 137438953472 := fun h => by omega
  have wlen : ∀ (l : List Mg) (M : List Pp), (wiM (l.map Mg.d) M).length ≤ l.length + M.length := fun l M => by
    have := wi_len (ms := l.map Mg.d) (L := M)
    rwa [List.length_map] at this
  have e1 := wlen ms L
  have e2 := wlen ns (wiM (ms.map Mg.d) L)
  have e3 := wlen (ms ++ ns) L
  have s1 : SmL (wiM (ms.map Mg.d) L) := wi_sm hosm (smd hzm)
  have s2 : SmL (wiM (ns.map Mg.d) (wiM (ms.map Mg.d) L)) := wi_sm s1 (smd hzn)
  have s3 : SmL (wiM ((ms ++ ns).map Mg.d) L) := wi_sm hosm (smd hzb)
  -- with the messages, and then the others
  refine s_call rfl (withG_s hA hV1 hosm hm.tl.tl (by omega) hzm) ?_
  rintro v1 _ ⟨hv1, g1, hT1, hg1, rfl⟩
  refine ⟨chk_seq, ?_⟩
  refine sx ?_
  refine s_call rfl (withG_s hT1 hv1 s1 hn.tl.tl (by omega) hzn) ?_
  rintro v2 _ ⟨hv2, g2, hT2, hg2, rfl⟩
  refine ⟨chk_seq, ?_⟩
  refine sx ?_
  refine s_call rfl (allG_s hT2 s2 (by omega)) ?_
  rintro _ _ ⟨xa, ya, oa, rfl, ha, rfl⟩
  refine ⟨chk_seq, ?_⟩
  refine s_entL (G :: .hb b7 57 r.cells :: ol 71 a5 c5 (ms ++ ns) :: ol 51 xa ya oa :: stars oKVs oa :: H) ((hg2 _).trans ((hg1 _).trans (by exact ent))) ?_
  -- with both as one
  refine sx ?_
  refine s_call rfl (withG_s hA hV1 hosm (hboth.ent (H := .hb b7 57 r.cells :: ol 71 a5 c5 (ms ++ ns) :: ol 51 xa ya oa :: stars oKVs oa :: H) (by exact ent)) (by omega) hzb) ?_
  rintro v3 _ ⟨hv3, g3, hT3, hg3, rfl⟩
  refine ⟨chk_seq, ?_⟩
  refine sx ?_
  refine s_call rfl (allG_s hT3 s3 (by omega)) ?_
  rintro _ _ ⟨xb, yb, ob, rfl, hb, rfl⟩
  refine ⟨chk_seq, ?_⟩
  refine s_entL (G :: .hb b7 57 r.cells :: oL xa ya oa (oL xb yb ob H)) ((hg3 _).trans (by exact ent)) ?_
  -- within a range of what they leave
  refine sx ?_
  refine s_drH [.hb b7 57 r.cells] (.one true 0 (.one true 1 (.one true 3 (.one false 2 (.one false 4 (.one false 5 (.one true 6 .nil))))))) mixed (by kernel_rfl) ?_ (he := by exact ent)
  refine sx ?_
  have hrr3 : ∀ {A : List Ck}, RRg w0 (A ++ H) r := fun {A} => hrr.ent (Ent.dropL A)
  have hm3 : ∀ {A : List Ck}, RMs w0 (A ++ H) b f ms := fun {A} => hm.ent (Ent.dropL A)
  refine s_call rfl (withG_s hA hV1 hosm (H := .hb b7 57 r.cells :: oL xa ya oa (oL xb yb ob H)) (hm3 (A := [_, _, _, _, _])) (by omega) hzm) ?_
  rintro v4 _ ⟨hv4, g4, hT4, hg4, rfl⟩
  refine ⟨chk_held (by exact ent), ?_⟩
  refine sx ?_
  refine s_call rfl (withinG_s hT4 hv4 s1 (r := r) (H := .hb b7 57 r.cells :: oL xa ya oa (oL xb yb ob H)) (hrr3 (A := [_, _, _, _, _])) (by omega) (by omega)) ?_
  rintro v5 _ ⟨hv5, g5, hT5, hg5, rfl⟩
  refine ⟨chk_held (by exact ent), ?_⟩
  refine sx ?_
  have s5 : SmL (inL r.d (wiM (ms.map Mg.d) L)) := in_sm s1
  have e5 : (inL r.d (wiM (ms.map Mg.d) L)).length ≤ (wiM (ms.map Mg.d) L).length := in_sub.length_le
  refine s_call rfl (allG_s hT5 s5 (by omega)) ?_
  rintro _ _ ⟨xc, yc, oc, rfl, hc, rfl⟩
  refine ⟨chk_held (by exact ent), ?_⟩
  refine sx ?_
  refine s_ent (G :: .hb b7 57 r.cells :: oL xa ya oa (oL xb yb ob (oL xc yc oc H))) ((hg5 _).trans ((hg4 _).trans (by exact ent))) ?_
  -- the range, with the messages within it
  refine sx ?_
  refine s_drH [.hb b7 57 r.cells] (.one true 0 (.one true 1 (.one true 3 (.one true 4 (.one false 2 (.one false 5 (.one false 6 (.one false 7 (.one true 8 .nil))))))))) mixed (by kernel_rfl) ?_ (he := by exact ent)
  refine sx ?_
  refine s_call rfl (withinG_s hA hV1 hosm (r := r) (H := .hb b7 57 r.cells :: oL xa ya oa (oL xb yb ob (oL xc yc oc H))) (hrr3 (A := [_, _, _, _, _, _, _])) (by omega) (by omega)) ?_
  rintro v6 _ ⟨hv6, g6, hT6, hg6, rfl⟩
  refine ⟨chk_held (by exact ent), ?_⟩
  refine sx ?_
  refine s_call rfl (mwithin_s (ms := ms) (r := r) (hm3 (A := [_, _, _, _, _, _, _, _])) (hrr3 (A := [_, _, _, _, _, _, _, _])) (by omega) hzm (by omega)) ?_
  rintro _ _ ⟨qa, qc, qs, rfl, hqs, rfl⟩
  refine ⟨chk_held (by exact ent), ?_⟩
  have hmb : ∀ m ∈ ms.map Mg.d, m.lo.length + 1 ≤ 140737488355327 ∧ m.hi.length ≤ 140737488355327 ∧ m.v.length ≤ 140737488355327 := fun m h => by
    have h1 := sumM_memG h
    have h2 : lenM m = 13 + m.lo.length + m.hi.length + m.v.length := rfl
    omega
  have hwl := within_len (n := 140737488355327) (r := r.d) hrl (fun m h => ⟨(hmb m h).1, (hmb m h).2.1⟩) (fun m h => (hmb m h).2.2)
  have hqz : MzL qs := fun m h => by
    have := hwl m.d (by rw [← hqs]; exact List.mem_map_of_mem h)
    exact ⟨this.1, Nat.le_trans this.2.1 (by decide), Nat.le_trans this.2.2 (by decide)⟩
  have hql : qs.length ≤ ms.length := by
    have h1 := within_le r.d (ms.map Mg.d)
    rw [← hqs, List.length_map, List.length_map] at h1
    exact h1
  have s6 : SmL (inL r.d L) := in_sm hosm
  have e6 : (inL r.d L).length ≤ L.length := in_sub.length_le
  refine sx ?_
  refine s_entL (g6 :: ol 71 qa qc qs :: stars oM qs :: .hb b7 57 r.cells :: oL xa ya oa (oL xb yb ob (oL xc yc oc H))) (by exact ent) ?_
  refine s_call rfl (withG_s hT6 hv6 s6 RMs.stP (by omega) hqz) ?_
  rintro v7 _ ⟨hv7, g7, hT7, hg7, rfl⟩
  rw [hqs] at hT7
  refine ⟨chk_held (by exact ent), ?_⟩
  refine sx ?_
  have s7 : SmL (wiM (withinL r.d (ms.map Mg.d)) (inL r.d L)) := by rw [← hqs]; exact wi_sm s6 (smd hqz)
  have e7 : (wiM (withinL r.d (ms.map Mg.d)) (inL r.d L)).length ≤ qs.length + (inL r.d L).length := by rw [← hqs]; exact wlen qs _
  refine s_call rfl (allG_s hT7 s7 (by omega)) ?_
  rintro _ _ ⟨xd, yd, od, rfl, hd, rfl⟩
  refine ⟨chk_held (by exact ent), ?_⟩
  refine sx ?_
  refine s_entL (G :: oL xa ya oa (oL xb yb ob (oL xc yc oc (oL xd yd od H)))) ((hg7 _).trans ((hg6 _).trans (by exact ent))) ?_
  -- with the messages, and Apply
  refine sx ?_
  refine s_call rfl (withG_s hA hV1 hosm (hm3 (A := [_, _, _, _, _, _, _, _])) (by omega) hzm) ?_
  rintro v8 _ ⟨hv8, g8, hT8, hg8, rfl⟩
  refine ⟨chk_seq, ?_⟩
  refine sx ?_
  refine s_call rfl (allG_s hT8 s1 (by omega)) ?_
  rintro _ _ ⟨xe, ye, oe, rfl, he, rfl⟩
  refine ⟨chk_seq, ?_⟩
  refine s_entL (oL xa ya oa (oL xb yb ob (oL xc yc oc (oL xd yd od (oL xe ye oe H))))) (by exact ent) ?_
  refine sx ?_
  refine s_call rfl (apply_s (es := es) (ms := ms) (hx.ent (Ent.dropL [_, _, _, _, _, _, _, _, _, _])) (fun e he => (hr e he).ent (Ent.dropL [_, _, _, _, _, _, _, _, _, _])) (hm3 (A := [_, _, _, _, _, _, _, _, _, _])) (by omega) hzm hy) ?_
  rintro _ _ ⟨xf, of, rfl, hf, hfl, rfl⟩
  refine ⟨chk_seq, ?_⟩
  refine s_entL (oL xa ya oa (oL xb yb ob (oL xc yc oc (oL xd yd od (oL xe ye oe (oL xf of.length of H)))))) (by exact ent) ?_
  refine sx ?_
  have q1 : oa.map KV.p = ob.map KV.p := by rw [ha, hb, hdb]; exact wi_wi hri
  have q2 : oc.map KV.p = od.map KV.p := by rw [hc, hd]; exact wi_in hri
  have q3 : oe.map KV.p = of.map KV.p := by rw [he]; exact wi_app hri hget hf
  refine s_callV rfl (gsameE_s (xs := oa) (ys := ob) RSl.hd (fun e he => (REe.st he).tl) RSl.hd.tl.tl (fun e he => (REe.st he).tl.tl.tl)) ?_
  rw [decide_eq_true q1]
  refine sx ?_
  refine s_callV rfl (gsameE_s (xs := oc) (ys := od) RSl.hd.tl.tl.tl.tl (fun e he => (REe.st he).tl.tl.tl.tl.tl) RSl.hd.tl.tl.tl.tl.tl.tl (fun e he => (REe.st he).tl.tl.tl.tl.tl.tl.tl)) ?_
  rw [decide_eq_true q2]
  refine sx ?_
  refine s_callV rfl (gsameE_s (xs := oe) (ys := of) RSl.hd.tl.tl.tl.tl.tl.tl.tl.tl (fun e he => (REe.st he).tl.tl.tl.tl.tl.tl.tl.tl.tl) RSl.hd.tl.tl.tl.tl.tl.tl.tl.tl.tl.tl (fun e he => (REe.st he).tl.tl.tl.tl.tl.tl.tl.tl.tl.tl.tl)) ?_
  rw [decide_eq_true q3]
  refine sx ?_
  exact s_ret1 rfl rfl ⟨rfl, rfl⟩ (Ent.dropL [_, _, _, _, _, _, _, _, _, _, _, _])
end Go.Sx
