/- Part of a proof: Apply, walked. -/
import Derived.Test.YtimakbpghggdfaaGreatCZH
import Derived.Test.YtimakbpghggdfaaGreatCGGj
import Derived.Test.YtimakbpghggdfaaGreatCSWOj
namespace Go.Sx
open Go Go.Proofs
set_option maxRecDepth 10000
variable {w0 : World} {H : List Ck}
instance : NiT Tryz.prog 96 := ⟨by kernel_rfl⟩
instance : NiT Tryz.prog 99 := ⟨by kernel_rfl⟩
structure ApI where
  i : Nat
  a : Option Addr
  c : Nat
  os : List KV
set_option maxHeartbeats 4000000 in
theorem apply_s {a b : Option Addr} {c d : Nat} {es : List KV} {ms : List Mg} (hx : RSl w0 H a c es) (hr : ∀ e ∈ es, REe w0 H e) (hm : RMs w0 H b d ms) (hl : es.length + ms.length ≤ 549755813888) (hz : ∀ m ∈ ms, m.lo.length ≤ 140737488355327 ∧ m.hi.length ≤ 140737488355328 ∧ m.v.length ≤ 140737488355328) (hy : ∀ e ∈ es, e.k.length ≤ 140737488355328 ∧ e.v.length ≤ 140737488355328) :
    FnS Tryz.prog w0 H 10 #[.slice a es.length c, .slice b ms.length d] (fun v H' => ∃ a' out, v = .slice a' (out : List KV).length out.length ∧ IsApp es (ms.map Mg.d) out ∧ out.length ≤ es.length + ms.length ∧ H' = ol 31 a' out.length out :: stars oKVs out :: H) := by
  refine fns_enter Tryz.func10 rfl rfl rfl ?_
  have hms := hm.sl
  refine sx ?_
  refine s_make0 (α := KV) rfl rfl (by omega) fun a5 => ?_
  refine sx ?_
  refine s_loop (fun q : ApI => [(1, .slice b ms.length d), (5, .slice q.a q.os.length q.c), (28, .slice a es.length c), (29, .int .i64 es.length), (30, .int .i64 q.i)]) (fun q => ol 31 q.a q.c q.os :: stars oKVs q.os :: H) (fun q => q.i ≤ es.length ∧ q.os.map KV.p = (es.map KV.p).take q.i) (fun q => es.length - q.i) ⟨0, some a5, es.length, []⟩ ⟨Nat.zero_le _, by simp⟩ ?_ (he := Ent.head stars_nil)
  rintro ⟨i, oa, oc, os⟩ ⟨h1, h2⟩
  simp only at h1 h2 ⊢
  have hol : os.length = i := by
    have := congrArg List.length h2
    simp only [List.length_map, List.length_take] at this
    omega
  refine sx ?_
  refine s_if rfl (fun t1 => ?_) (fun t1 => ?_)
  · obtain ⟨e, he⟩ := get_lt es i (by omega)
    have her := hr e (List.mem_of_getElem? he)
    obtain ⟨y1, y2⟩ := hy e (List.mem_of_getElem? he)
    have hk := her.k
    have hv := her.v
    refine sx ?_
    refine s_alloc fun b7 => ?_
    refine sx ?_
    refine sx ?_; refine s_drR (ol 31 oa oc os) (by exact rm) (.one true 0 (.one true 1 (.one true 2 (.one true 4 (.one true 5 (.one false 3 (.one false 6 (.one true 7 (.one false 8 (.one false 9 (.one true 10 .nil))))))))))) mixed (by kernel_rfl) ?_; refine sx ?_
    refine s_call rfl (mcopied_s (xs := e.k) (by exact rby) y1) ?_
    rintro _ _ ⟨ka, rfl, rfl⟩
    refine ⟨chk_held (by exact ent), ?_⟩
    refine sx ?_
    refine s_call rfl (mcopied_s (xs := e.v) (by exact rby) y2) ?_
    rintro _ _ ⟨va, rfl, rfl⟩
    refine ⟨chk_held (by exact ent), ?_⟩
    refine sx ?_
    refine s_bsl [(⟨ka, e.k.length, e.k, va, e.v.length, e.v⟩ : KV)] rfl rfl fun b42 => ?_
    refine s_app (xs := os) (ys := [(⟨ka, e.k.length, e.k, va, e.v.length, e.v⟩ : KV)]) ?_ (hby := by simp only [List.length_cons, List.length_nil]; omega)
    intro a4 c4
    refine sx ?_
    refine s_again ⟨i + 1, a4, c4, os ++ [⟨ka, e.k.length, e.k, va, e.v.length, e.v⟩]⟩ ⟨by simp only; omega, ?_⟩ (by simp only; omega) (he := ?_)
    · simp only [List.map_append]
      rw [h2, snocT (get_map (f := KV.p) he)]
      rfl
    · refine Ent.cons (by exact rm) ?_
      exact Ent.trans (H' := ob ka e.k.length e.k :: ob va e.v.length e.v :: stars oKVs os :: H) (by exact ent) (stars_snoc (f := oKVs) (s := ⟨ka, e.k.length, e.k, va, e.v.length, e.v⟩))
  obtain rfl : i = es.length := by omega
  rw [List.take_of_length_le (by simp)] at h2
  refine sx ?_
  refine s_call rfl (sortS_s (xs := os) (fun e he => (REe.st he).k) (by omega)) ?_
  rintro _ _ ⟨rfl, s, hs, rfl⟩
  refine ⟨chk_seq, ?_⟩
  have hsl := hs.st.len
  rw [hsl]
  refine s_entL (ol 31 oa oc s :: stars oKVs s :: H) (Ent.head (stars_perm hs.st.perm)) ?_
  have hss : RSl w0 (ol 31 oa oc s :: stars oKVs s :: H) oa oc s := RSl.hd
  refine sx ?_
  refine s_loop (fun q : ApI => [(1, .slice b ms.length d), (5, .slice oa s.length oc), (8, .slice q.a q.os.length q.c), (47, .slice oa s.length oc), (48, .int .i64 s.length), (49, .int .i64 q.i)]) (fun q => ol 31 q.a q.c q.os :: ol 31 oa oc s :: stars oKVs s :: H) (fun q => q.i ≤ s.length ∧ q.os ++ lastsE (s.drop q.i) = lastsE s) (fun q => s.length - q.i) ⟨0, none, 0, []⟩ ⟨Nat.zero_le _, by simp⟩ ?_ (he := Ent.nilS)
  rintro ⟨i, pa, pc, out⟩ ⟨h3, h4⟩
  simp only at h3 h4 ⊢
  have hol2 : out.length ≤ s.length := by
    have := congrArg List.length h4
    have h5 := (lasts_sub s).length_le
    simp only [List.length_append] at this
    omega
  refine sx ?_
  refine s_if rfl (fun t1 => ?_) (fun t1 => ?_)
  · obtain ⟨e, he⟩ := get_lt s i (by omega)
    have hst := lasts_step he
    have her : REe w0 (ol 31 pa pc out :: ol 31 oa oc s :: stars oKVs s :: H) e := (REe.st (List.mem_of_getElem? he)).tl.tl
    have hk := her.k
    refine sx ?_
    refine s_alloc fun b10 => ?_
    refine sx ?_
    refine sx ?_; refine s_dr (.one true 0 (.one true 1 (.one true 2 (.one true 3 (.one true 4 (.one true 5 (.one true 6 (.one true 7 (.one true 8 (.one true 9 (.one true 10 (.one true 11 (.one true 12 (.one true 13 (.one false 14 (.one true 15 (.one true 16 .nil))))))))))))))))) mixed (by kernel_rfl) ?_; refine sx ?_
    refine s_lif rfl (fun t2 => ?_) (fun t2 => ?_)
    · rw [if_pos (.inl (by omega))] at hst
      refine sx ?_
      refine s_bsl [e] rfl rfl fun b73 => ?_
      refine s_app (xs := out) (ys := [e]) ?_ (hby := by simp only [List.length_cons, List.length_nil]; omega)
      intro a4 c4
      refine sx ?_
      refine s_again ⟨i + 1, a4, c4, out ++ [e]⟩ ⟨by simp only; omega, ?_⟩ (by simp only; omega)
      simp only [List.append_assoc, List.singleton_append]
      rw [← h4, hst]
    · obtain ⟨e', he'⟩ := get_lt s (i + 1) (by omega)
      have her' : REe w0 (.hb b10 31 (Cel.f e) :: ol 31 pa pc out :: ol 31 oa oc s :: stars oKVs s :: H) e' := (REe.st (List.mem_of_getElem? he')).tl.tl.tl
      have hk' := her'.k
      refine sx ?_
      refine s_callV rfl (compare_s (xs := e.k) (ys := e'.k) hk.tl hk') ?_
      refine sx ?_
      refine s_ifn rfl (fun t3 => ?_) (fun t3 => ?_)
      · rw [if_pos (.inr fun g => t3 ((cmp_eq _ _).2 (g e' he')))] at hst
        refine sx ?_
        refine s_bsl [e] rfl rfl fun b73 => ?_
        refine s_app (xs := out) (ys := [e]) ?_ (hby := by simp only [List.length_cons, List.length_nil]; omega)
        intro a4 c4
        refine sx ?_
        refine s_again ⟨i + 1, a4, c4, out ++ [e]⟩ ⟨by simp only; omega, ?_⟩ (by simp only; omega)
        simp only [List.append_assoc, List.singleton_append]
        rw [← h4, hst]
      · rw [if_neg (by
          rintro (g | g)
          · omega
          · exact g fun x hx => by rw [he'] at hx; cases hx; exact (cmp_eq _ _).1 t3)] at hst
        refine sx ?_
        refine s_again ⟨i + 1, pa, pc, out⟩ ⟨by simp only; omega, ?_⟩ (by simp only; omega)
        simp only
        rw [← hst]
        exact h4
  obtain rfl : i = s.length := by omega
  rw [List.drop_length] at h4
  have h4 : out = lastsE s := by rw [← h4]; simp [lastsE]
  have hq : IsApp es [] out := by
    rw [h4]
    obtain ⟨g1, g2⟩ := lasts_is hs.up
    refine ⟨g1, fun key v => ?_⟩
    rw [g2]
    have e1 : getE s key = getE es key := by
      have : getE s key = getE os key := by unfold getE; rw [hs.st.eq]
      rw [this]; exact getE_p h2 key
    rw [e1]
    rfl
  have hsub : out.Sublist s := by rw [h4]; exact lasts_sub s
  refine s_ent (ol 31 pa pc out :: stars oKVs out :: H) (Ent.head (Ent.tl (stars_sub hsub))) ?_
  have hlo : out.length ≤ es.length := by
    have := hsub.length_le
    have := congrArg List.length h2
    simp only [List.length_map] at this
    omega
  clear h4 hsub hss h2 t1 h3 hs hsl
  refine sx ?_
  refine s_loop (fun q : ApI => [(8, .slice q.a q.os.length q.c), (76, .slice b ms.length d), (77, .int .i64 ms.length), (78, .int .i64 q.i)]) (fun q => ol 31 q.a q.c q.os :: stars oKVs q.os :: H) (fun q => q.i ≤ ms.length ∧ IsApp es ((ms.map Mg.d).take q.i) q.os ∧ q.os.length ≤ es.length + q.i) (fun q => ms.length - q.i) ⟨0, pa, pc, out⟩ ⟨Nat.zero_le _, hq, by simp only; omega⟩ ?_
  clear hq hlo hol2 hol
  rintro ⟨i, pa, pc, out⟩ ⟨h1, h2, h3⟩
  simp only at h1 h2 h3 ⊢
  refine sx ?_
  refine s_if rfl (fun t1 => ?_) (fun t1 => ?_)
  · obtain ⟨m, hmi⟩ := get_lt ms i (by omega)
    have hmm := List.mem_of_getElem? hmi
    have hrm := hm.el m hmm
    have hmlo := hrm.lo
    have hmhi := hrm.hi
    have hmv := hrm.v
    obtain ⟨z1, z2, z3⟩ := hz m hmm
    have hsn := snocT (get_map (f := Mg.d) hmi)
    have hout : RSl w0 (ol 31 pa pc out :: stars oKVs out :: H) pa pc out := RSl.hd
    have hoe : ∀ e ∈ out, RBy w0 (ol 31 pa pc out :: stars oKVs out :: H) e.ka e.kc e.k := fun e he => (REe.st he).k.tl
    refine sx ?_
    refine s_alloc fun b12 => ?_
    refine sx ?_
    refine s_callV rfl (mmeant_s (m := m)) ?_
    by_cases k1 : m.kd = 1
    · rw [show mntV m = .iface 91 (.agg #[.slice m.la m.lo.length m.lc, .slice m.va m.v.length m.vc]) by unfold mntV; rw [if_pos k1]]
      refine sx ?_
      refine s_yS rfl rfl rfl (y_taT rfl) ?_
      refine sx ?_
      refine s_alloc fun b13 => ?_
      refine sx ?_
      refine s_call rfl (place_s (xs := out) (key := m.lo) hout.tl.tl h2.up (fun e he => (hoe e he).tl.tl) (by exact rby) (by omega)) ?_
      rintro _ _ ⟨j, is, rfl, hj, rfl⟩
      refine ⟨chk_seq, ?_⟩
      refine sx ?_
      refine s_cut (ι := Nat × Option Addr × Option Addr) (fun q => [(8, .slice pa out.length pc), (14, .int .i64 j), (15, .bool is), (16, .pointer (some ⟨q.1, 0, none⟩)), (76, .slice b ms.length d), (77, .int .i64 ms.length), (78, .int .i64 i)]) (fun q => .hb q.1 31 (KV.cells ⟨q.2.1, m.lo.length, m.lo, q.2.2, m.v.length, m.v⟩) :: ob q.2.1 m.lo.length m.lo :: ob q.2.2 m.v.length m.v :: ol 31 pa pc out :: stars oKVs out :: H) (fun _ => True) ?_ ?_
      · refine sx ?_; refine s_dr (.one true 0 (.one true 1 (.one true 3 (.one true 4 (.alt (.one false 2 (.alt (.one false 5 (.one true 6 (.one false 7 (.one false 8 .nil)))) (.one false 7 (.one false 5 (.one true 6 (.one false 8 .nil)))))) (.one false 7 (.one false 2 (.one false 5 (.one true 6 (.one false 8 .nil)))))))))) mixed (by kernel_rfl) ?_; refine sx ?_
        refine s_alt ?_ ?_
        · skip
          refine s_call rfl (mcopied_s (xs := m.lo) (by exact rby) (by omega)) ?_
          rintro _ _ ⟨ka, rfl, rfl⟩
          refine ⟨chk_held (by exact ent), ?_⟩
          refine s_alt ?_ ?_
          · skip
            refine s_call rfl (mcopied_s (xs := m.v) (by exact rby) z3) ?_
            rintro _ _ ⟨va, rfl, rfl⟩
            refine ⟨chk_held (by exact ent), ?_⟩
            refine sx ?_
            refine s_alloc fun b16 => ?_
            refine sx ?_
            refine s_mid (b16, ka, va) trivial (he := ?_)
            exact Ent.cons (by exact rm) (Ent.cons (by exact rm) (Ent.cons (by exact rm) (by exact ent)))
          · skip
            refine s_alloc fun b16 => ?_
            refine sx ?_
            refine s_call rfl (mcopied_s (xs := m.v) (by exact rby) z3) ?_
            rintro _ _ ⟨va, rfl, rfl⟩
            refine ⟨chk_held (by exact ent), ?_⟩
            refine sx ?_
            refine s_mid (b16, ka, va) trivial (he := ?_)
            exact Ent.cons (by exact rm) (Ent.cons (by exact rm) (Ent.cons (by exact rm) (by exact ent)))
        · skip
          refine s_alloc fun b16 => ?_
          refine sx ?_
          refine s_call rfl (mcopied_s (xs := m.lo) (by exact rby) (by omega)) ?_
          rintro _ _ ⟨ka, rfl, rfl⟩
          refine ⟨chk_held (by exact ent), ?_⟩
          refine sx ?_
          refine s_call rfl (mcopied_s (xs := m.v) (by exact rby) z3) ?_
          rintro _ _ ⟨va, rfl, rfl⟩
          refine ⟨chk_held (by exact ent), ?_⟩
          refine sx ?_
          refine s_mid (b16, ka, va) trivial (he := ?_)
          exact Ent.cons (by exact rm) (Ent.cons (by exact rm) (Ent.cons (by exact rm) (by exact ent)))
      rintro ⟨b16, ka, va⟩ _
      simp only
      obtain ⟨e, hee⟩ : ∃ e : KV, e = ⟨ka, m.lo.length, m.lo, va, m.v.length, m.v⟩ := ⟨_, rfl⟩
      have hek : e.k = m.lo := by rw [hee]
      have hev : e.v = m.v := by rw [hee]
      have hob : ∀ L : List Ck, ob ka m.lo.length m.lo :: ob va m.v.length m.v :: L = oKVs e ++ L := fun L => by rw [hee]; rfl
      have hnext := h2.put (m := m.d) (i := j) (is := is) (e := e) k1 hj hek hev
      rw [← hee]
      refine sx ?_
      cases is
      · refine sx ?_
        refine s_bsl [e] rfl rfl fun b109 => ?_
        refine s_entL (ol 31 (some ⟨b109, 0, none⟩) 1 [e] :: ol 31 pa pc out :: ob ka m.lo.length m.lo :: ob va m.v.length m.v :: stars oKVs out :: H) (by exact entq) ?_
        refine s_call rfl (insE_s (xs := out) (x := e) (i := j) hj.le (by omega)) ?_
        rintro _ _ ⟨a4, c4, rfl, rfl⟩
        refine ⟨chk_seq, ?_⟩
        rw [if_neg (by decide)] at hnext
        have hln : (out.take j ++ e :: out.drop j).length = out.length + 1 := by
          have := hj.le
          simp only [List.length_append, List.length_cons, List.length_take, List.length_drop]
          omega
        rw [← hln]
        refine sx ?_
        refine s_again ⟨i + 1, a4, c4, out.take j ++ e :: out.drop j⟩ ⟨by simp only; omega, by simp only; rw [hsn]; exact hnext, by simp only; omega⟩ (by simp only; omega) (he := ?_)
        refine Ent.head ?_
        refine Ent.trans (H' := ob ka m.lo.length m.lo :: ob va m.v.length m.v :: stars oKVs out :: H) (by exact ent) ?_
        rw [hob]
        exact ins_stars (Nat.le_refl _)
      · obtain ⟨y, hy', _⟩ := hj.is.1 rfl
        have hjl := (List.getElem?_eq_some_iff.1 hy').1
        refine s_kn (φ := ∃ ad, pa = some ad) (fun w hw => ?_) ?_
        · exact own_gA (c := pc) (Sat.ownOf (c' := ol 31 pa pc out) (by exact at_) hw) (by omega)
        rintro ⟨ad, rfl⟩
        rw [if_pos rfl] at hnext
        have hset : out.set j e = out.take j ++ e :: out.drop (j + 1) := by rw [List.set_eq_take_append_cons_drop, if_pos hjl]
        refine sx ?_
        refine s_setA (i := j) e rfl rfl (by exact at_) rfl (by omega) ?_
        rw [show Value.slice (some ad) out.length pc = Value.slice (some ad) (out.set j e).length pc by rw [List.length_set], hset]
        refine sx ?_
        refine s_again ⟨i + 1, some ad, pc, out.take j ++ e :: out.drop (j + 1)⟩ ⟨by simp only; omega, by simp only; rw [hsn]; exact hnext, by simp only [List.length_append, List.length_cons, List.length_take, List.length_drop]; omega⟩ (by simp only; omega) (he := ?_)
        refine Ent.trans (H' := ol 31 (some ad) pc (out.take j ++ e :: out.drop (j + 1)) :: ob ka m.lo.length m.lo :: ob va m.v.length m.v :: stars oKVs out :: H) (by exact ent) (Ent.head ?_)
        rw [hob]
        exact ins_stars (by omega)
    by_cases k2 : m.kd = 2
    · rw [show mntV m = .iface 96 (.agg #[.slice m.la m.lo.length m.lc]) by unfold mntV; rw [if_neg k1, if_pos k2]]
      refine sx ?_
      refine s_yS rfl rfl rfl (y_taF rfl (by decide)) ?_
      refine sx ?_
      refine s_yS rfl rfl rfl (y_taT rfl) ?_
      refine sx ?_
      refine s_alloc fun b17 => ?_
      refine sx ?_
      refine s_call rfl (place_s (xs := out) (key := m.lo) hout.tl.tl h2.up (fun e he => (hoe e he).tl.tl) (by exact rby) (by omega)) ?_
      rintro _ _ ⟨j, is, rfl, hj, rfl⟩
      refine ⟨chk_seq, ?_⟩
      refine sx ?_
      cases is
      · have hnext := h2.takeF (m := m.d) (i := j) k2 hj rfl
        refine sx ?_
        exact s_again ⟨i + 1, pa, pc, out⟩ ⟨by simp only; omega, by simp only; rw [hsn]; exact hnext, by simp only; omega⟩ (by simp only; omega)
      · have hnext := h2.takeT (m := m.d) (i := j) k2 hj rfl
        obtain ⟨y, hy', _⟩ := hj.is.1 rfl
        have hjl := (List.getElem?_eq_some_iff.1 hy').1
        refine sx ?_
        refine s_rw (t := 125) (v' := .int .i64 ((j + 1 : Nat) : Int)) rfl (ci (by omega)) ?_
        refine s_entL (ol 31 pa pc out :: stars oKVs out :: H) (by exact entq) ?_
        refine s_call rfl (delE_s (xs := out) (i := j) (j := j + 1) (by omega) (by omega) (by omega)) ?_
        rintro _ _ ⟨rfl, rfl⟩
        refine ⟨chk_seq, ?_⟩
        refine sx ?_
        exact s_again ⟨i + 1, pa, pc, out.take j ++ out.drop (j + 1)⟩ ⟨by simp only; omega, by simp only; rw [hsn]; exact hnext, by simp only [List.length_append, List.length_take, List.length_drop]; omega⟩ (by simp only; omega) (he := Ent.head (del_stars (by omega)))
    by_cases k3 : m.kd = 3
    · rw [show mntV m = .iface 99 (.agg #[.slice m.la m.lo.length m.lc, .slice m.ha m.hi.length m.hc]) by unfold mntV; rw [if_neg k1, if_neg k2, if_pos k3]]
      refine sx ?_
      refine s_yS rfl rfl rfl (y_taF rfl (by decide)) ?_
      refine sx ?_
      refine s_yS rfl rfl rfl (y_taF rfl (by decide)) ?_
      refine sx ?_
      refine s_yS rfl rfl rfl (y_taT rfl) ?_
      refine sx ?_
      refine s_alloc fun b20 => ?_
      refine sx ?_
      refine s_call rfl (place_s (xs := out) (key := m.lo) hout.tl.tl h2.up (fun e he => (hoe e he).tl.tl) (by exact rby) (by omega)) ?_
      rintro _ _ ⟨j, is, rfl, hj, rfl⟩
      refine ⟨chk_seq, ?_⟩
      refine sx ?_
      refine s_call rfl (place_s (xs := out) (key := m.hi) hout.tl.tl h2.up (fun e he => (hoe e he).tl.tl) (by exact rby) (by omega)) ?_
      rintro _ _ ⟨k, ks, rfl, hk, rfl⟩
      refine ⟨chk_seq, ?_⟩
      have hnext := h2.cut (m := m.d) k3 hj hk
      refine sx ?_
      refine s_if rfl (fun t4 => ?_) (fun t4 => ?_)
      · rw [if_pos (by omega)] at hnext
        have hkl := hk.le
        refine sx ?_
        refine s_entL (ol 31 pa pc out :: stars oKVs out :: H) (by exact entq) ?_
        refine s_call rfl (delE_s (xs := out) (i := j) (j := k) (by omega) hk.le (by omega)) ?_
        rintro _ _ ⟨rfl, rfl⟩
        refine ⟨chk_seq, ?_⟩
        refine sx ?_
        exact s_again ⟨i + 1, pa, pc, out.take j ++ out.drop k⟩ ⟨by simp only; omega, by simp only; rw [hsn]; exact hnext, by simp only [List.length_append, List.length_take, List.length_drop]; omega⟩ (by simp only; omega) (he := Ent.head (del_stars (by omega)))
      · rw [if_neg (by omega)] at hnext
        refine sx ?_
        exact s_again ⟨i + 1, pa, pc, out⟩ ⟨by simp only; omega, by simp only; rw [hsn]; exact hnext, by simp only; omega⟩ (by simp only; omega)
    · rw [show mntV m = .nilIface by unfold mntV; rw [if_neg k1, if_neg k2, if_neg k3]]
      have hnext := h2.none (m := m.d) k1 k2 k3
      refine sx ?_
      refine s_yS rfl rfl rfl (y_taN rfl) ?_
      refine sx ?_
      refine s_yS rfl rfl rfl (y_taN rfl) ?_
      refine sx ?_
      refine s_yS rfl rfl rfl (y_taN rfl) ?_
      refine sx ?_
      exact s_again ⟨i + 1, pa, pc, out⟩ ⟨by simp only; omega, by simp only; rw [hsn]; exact hnext, by simp only; omega⟩ (by simp only; omega)
  · obtain rfl : i = ms.length := by omega
    rw [List.take_of_length_le (by simp)] at h2
    refine sx ?_
    refine s_call rfl (cloneE_s (xs := out) RSl.hd (by omega)) ?_
    rintro _ _ ⟨a4, c4, rfl, rfl⟩
    refine ⟨chk_seq, ?_⟩
    refine sx ?_
    refine s_call rfl clipE_s ?_
    rintro _ _ ⟨rfl, rfl⟩
    refine ⟨chk_seq, ?_⟩
    refine sx ?_
    exact s_ret1 rfl rfl ⟨a4, out, rfl, h2, h3, rfl⟩
end Go.Sx

