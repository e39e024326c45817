/- The law NodeTakes, walked. -/
import Derived.Test.YtkcabddbeclokaaCWE
import Derived.Test.YtkcabddbeclokaaCWC
namespace Go.Sx
open Go Go.Proofs
set_option maxRecDepth 10000
variable {w0 : World} {H : List Ck}
theorem shpN_len {size : Int} {d : List Int × List Bs} {ms : List MD} (h : shpN size d ms = 0) : d.2.length + 1 = d.1.length := by
  unfold shpN at h
  by_cases hs : sizedB size = false
  · rw [chkK_1 hs] at h
    simp at h
  by_cases h1 : d.2.length + 1 = d.1.length ∧ 2 ≤ d.1.length ∧ PgOk d.1
  · exact h1.1
  · rw [chkK_61 (by simpa using hs) h1] at h
    simp at h
theorem keysB_mem {ks : List Bs} {x : Bs} (h : x ∈ ks) : 2 + x.length ≤ keysB ks := by
  induction ks with
  | nil => cases h
  | cons a r ih =>
    simp only [keysB, List.map_cons, List.sum_cons] at ih ⊢
    rcases List.mem_cons.1 h with rfl | h
    · omega
    · have := ih h
      omega
theorem TM_len (m : Mg) : lenM (TM m).d = lenM m.d := by simp [lenM, TM, tV]
theorem sumM_TM (ms : List Mg) : sumM ((ms.map TM).map Mg.d) = sumM (ms.map Mg.d) := by
  induction ms with
  | nil => rfl
  | cons m r ih =>
    simp only [sumM, List.map_cons, List.sum_cons] at ih ⊢
    rw [ih, TM_len]
theorem lim_turn {L : Ln} (h : L.nd.Lim) : L.turn.nd.Lim := by
  obtain ⟨h1, h2, h3, h4, h5⟩ := h
  refine ⟨?_, h2, ?_, h4, fun m hm => ?_⟩
  · simpa [Ln.turn, Ln.nd] using h1
  · simpa [Ln.turn, Ln.nd] using h3
  · simp only [Ln.turn, Ln.nd] at hm
    obtain ⟨r, hr, e⟩ := List.mem_map.1 hm
    have := h5 r hr
    rw [← e]
    simpa [TM, tV] using this
theorem wM_mem {l : List MD} {m : MD} (h : m ∈ l) : 1 + m.lo.length + m.hi.length + m.v.length ≤ wM l := by
  induction l with
  | nil => cases h
  | cons a r ih =>
    simp only [wM, List.map_cons, List.sum_cons] at ih ⊢
    rcases List.mem_cons.1 h with rfl | h
    · omega
    · have := ih h
      omega
theorem lim_wt {n : Nd} {x : Int} (h : x ≤ 2147483647) (he : x ≤ 2147483647 → x = n.k.ps.length + wK n.k.keys + wM n.md) : n.Lim := by
  have hs := Nd.small_of h he
  have h1 := hs.p
  have h2 := hs.k
  have h3 := hs.m
  have h0 := he h
  have h4 := sumM_len n.md
  rw [show n.md.length = n.ms.length from List.length_map _] at h4
  have h5 := keysB_len n.k.keys
  rw [show n.k.keys.length = n.k.ks.length from List.length_map _] at h5
  refine ⟨by omega, by omega, by omega, fun p hp => ?_, fun m hm => ?_⟩
  · have := keysB_mem (ks := n.k.keys) (x := p.xs) (List.mem_map.2 ⟨p, hp, rfl⟩)
    omega
  · have := wM_mem (l := n.md) (List.mem_map.2 ⟨m, hm, rfl⟩)
    have e1 : m.d.lo = m.lo := rfl
    have e2 : m.d.hi = m.hi := rfl
    have e3 : m.d.v = m.v := rfl
    rw [e1, e2, e3] at this
    omega
set_option maxHeartbeats 4000000 in
theorem ntakes_s {size i : Int} {n : Nd} (hi : I64 i) (hn : RNd w0 H n) (hft : n.Fit) : FnV Try.prog w0 H 6 #[.int .i64 size, .agg n.cells.toArray, .int .i64 i] (.bool true) := by
  refine fns_enter Try.func6 rfl rfl rfl ?_
  have hk := hn.k
  have hps := hk.ps
  refine s_kn (Kn.sl hps) fun l1 => ?_
  simp only [maxLen] at l1
  refine sx ?_
  refine s_boxA rfl fun b4 => ?_
  refine sx ?_
  refine s_callV rfl nshown_s ?_
  refine sx ?_
  refine s_call rfl (nweight_s (n := n) (by exact rnd) hft) ?_
  rintro _ _ ⟨x, rfl, hx0, hx1, rfl⟩
  refine ⟨chk_seq, ?_⟩
  refine sx ?_
  refine s_lif rfl (fun t1 => ?_) (fun t1 => ?_)
  · refine sx ?_
    exact s_ret1 rfl rfl ⟨rfl, rfl⟩
  have hsm := Nd.small_of (by omega) hx1
  have hsp := hsm.p
  have hsk := hsm.k
  have hsm' := hsm.m
  have hL := lim_wt (by omega) hx1
  refine sx ?_
  refine s_callV rfl (rshape_s (n := n) (size := size) (by exact rnd) (by omega)) ?_
  refine sx ?_
  refine s_ifn rfl (fun t2 => ?_) (fun t2 => ?_)
  · refine sx ?_
    exact s_ret1 rfl rfl ⟨rfl, rfl⟩
  have hlen := shpN_len t2
  rw [show n.k.d.1.length = n.k.ps.length from rfl, show n.k.d.2.length = n.k.ks.length from List.length_map _] at hlen
  refine sx ?_
  refine s_boxA rfl fun b8 => ?_
  refine sx ?_
  refine s_call rfl (nlend_s (n := n) (by exact rnd) hL) ?_
  rintro _ _ ⟨L, rfl, hpm, hLd, hLm, rfl⟩
  refine ⟨chk_seq, ?_⟩
  refine sx ?_
  refine s_alloc fun b9 => ?_
  refine sx ?_
  have rL : RNd w0 (.hb b9 52 L.cells :: .star L.cs :: .hb b4 39 n.cells :: H) L.nd := Ln.rnd.tl
  have rn : RNd w0 (.hb b9 52 L.cells :: .star L.cs :: .hb b4 39 n.cells :: H) n := hn.tl.tl.tl
  have e1 : L.nd.k.ps = n.k.ps := congrArg Prod.fst hLd
  have e2 : L.nd.k.keys = n.k.keys := congrArg Prod.snd hLd
  have e3 : L.nd.k.ks.length = n.k.ks.length := by have := congrArg List.length e2; simpa [Kd.keys] using this
  have e4 : L.nd.ms.length = n.ms.length := by have := congrArg List.length hLm; simpa [Nd.md] using this
  have hLL : L.nd.Lim := lim_of hL (by rw [e1]; exact Nat.le_refl _) (by rw [e2]; exact fun _ h => h) (by omega) (by rw [hLm]; exact fun _ h => h) (by omega)
  have hkL : L.nd.k.ks.length < L.nd.k.ps.length := by rw [e3, e1]; omega
  have hyL : keysB L.nd.k.keys ≤ 4294967296 := by rw [e2]; omega
  have huL : sumM L.nd.md ≤ 549755813888 := by rw [hLm]; omega
  refine s_entL ((nb0 b8).ck :: .hb b9 52 L.cells :: .star L.cs :: .hb b4 39 n.cells :: H) (Ent.trans (H' := .hb b8 32 [.slice none 0 0, .slice none 0 0, .slice none 0 0, .slice none 0 0, .slice none 0 0] :: .hb b9 52 L.cells :: .star L.cs :: .hb b4 39 n.cells :: H) (by exact ent) nb0_ent) ?_
  refine s_call rfl (took_s (B := nb0 b8) (cnt := 0) (n := L.nd) (q := n) (i := i) rL rn hLd.symm hLm.symm hLL hkL hyL huL (nb0_ok b8) (by omega)) ?_
  rintro _ _ ⟨rfl, B1, rfl, k1, ok1⟩
  have k1 : B1.k = b8 := k1
  refine ⟨chk_seq, ?_⟩
  rw [show b8 = B1.k from k1.symm]
  refine sx ?_
  refine s_call rfl (took_s (B := B1) (n := L.nd) (q := n) (i := i) rL rn hLd.symm hLm.symm hLL hkL hyL huL ok1 (by omega)) ?_
  rintro _ _ ⟨rfl, B2, rfl, k2, ok2⟩
  refine ⟨chk_seq, ?_⟩
  rw [show B1.k = B2.k from k2.symm]
  refine sx ?_
  refine s_drH (.hb b9 52 L.cells :: .star L.cs :: .hb b4 39 n.cells :: H) (.one true 0 (.one true 1 (.one true 2 (.one true 3 (.one true 4 (.one true 5 (.one true 6 (.one true 7 (.one true 9 (.one false 8 (.one false 10 (.one true 11 .nil)))))))))))) mixed (by kernel_rfl) ?_
  refine sx ?_
  refine s_rw (t := 49) (v' := .pointer (some ((⟨b4, 0, none⟩ : Addr).add 0))) rfl rfl ?_
  refine sx ?_
  refine s_callV rfl (npick_s (c := i) (n := (n.k.ps.length : Int)) hi (by omega)) ?_ (hk := chk_held (by exact entq))
  refine sx ?_
  refine s_call rfl (took_s (B := B2) (n := L.nd) (q := n) (i := pkL i n.k.ps.length) rL rn hLd.symm hLm.symm hLL hkL hyL huL ok2 (by omega)) ?_
  rintro _ _ ⟨rfl, B3, rfl, k3, ok3⟩
  refine ⟨chk_held (by exact entq), ?_⟩
  rw [show B2.k = B3.k from k3.symm]
  refine sx ?_
  refine s_call rfl (FnS.ent (nstays_s (L := L) (n := n) (H := B3.ck :: .hb b9 52 L.cells :: .hb b4 39 n.cells :: H) hpm hLd hLm hn.tl.tl.tl.tl hL) (by exact entq)) ?_
  rintro _ _ ⟨rfl, rfl⟩
  refine ⟨chk_seq, ?_⟩
  clear rL rn
  refine sx ?_
  refine s_call rfl (nturn_s (L := L) (H := B3.ck :: .hb b9 52 L.cells :: .hb b4 39 n.cells :: H) (by rw [hpm]; rfl) hLL) ?_
  rintro _ _ ⟨q, rfl, hqd, hqm, rfl⟩
  refine ⟨chk_seq, ?_⟩
  refine sx ?_
  refine s_alloc fun b14 => ?_
  refine sx ?_
  refine s_ent (B3.ck :: .hb b14 39 q.cells :: oN q (.star L.turn.cs :: .hb b9 52 L.cells :: .hb b4 39 n.cells :: H)) (by exact ent) ?_
  have rq : RNd w0 (.hb b14 39 q.cells :: oN q (.star L.turn.cs :: .hb b9 52 L.cells :: .hb b4 39 n.cells :: H)) q := RNd.oN.tl
  have rT : RNd w0 (.hb b14 39 q.cells :: oN q (.star L.turn.cs :: .hb b9 52 L.cells :: .hb b4 39 n.cells :: H)) L.turn.nd := Ln.rnd.tl.tl.tl.tl
  have tp : L.turn.nd.k.ps.length = n.k.ps.length := by rw [← e1]; simp [Ln.turn, Ln.nd]
  have tk : L.turn.nd.k.ks = L.nd.k.ks := rfl
  have ty : L.turn.nd.k.keys = L.nd.k.keys := rfl
  have tm : sumM L.turn.nd.md = sumM L.nd.md := sumM_TM L.ms
  have qp : q.k.ps.length = n.k.ps.length := by rw [← tp]; exact congrArg (fun d => d.1.length) hqd
  refine s_drH (.hb b14 39 q.cells :: oN q (.star L.turn.cs :: .hb b9 52 L.cells :: .hb b4 39 n.cells :: H)) (.one true 0 (.one true 1 (.one false 2 (.one true 3 (.one true 4 (.one true 5 (.one true 6 (.one true 7 (.one true 8 (.one true 9 (.one true 10 (.one true 11 (.one true 12 (.one true 14 (.one false 13 (.one false 15 (.one true 16 (.one true 17 .nil)))))))))))))))))) mixed (by kernel_rfl) ?_
  refine sx ?_
  refine s_callV rfl (rshape_s (n := q) (size := size) rq.tl (by omega)) ?_ (hk := chk_held (by exact entq))
  refine sx ?_
  refine s_lifn rfl (fun t3 => ?_) (fun t3 => ?_)
  · refine sx ?_
    refine s_call rfl (nends_s (B := B3) (n := 137438953472) (H := .hb b14 39 q.cells :: oN q (.star L.turn.cs :: .hb b9 52 L.cells :: .hb b4 39 n.cells :: H)) (ok3.mono (by omega)) (by omega) |>.ent (by exact entq)) ?_
    rintro _ _ ⟨rfl, rfl⟩
    refine ⟨chk_seq, ?_⟩
    refine sx ?_
    exact s_ret1 rfl rfl ⟨rfl, rfl⟩ (Ent.tl (Ent.tl (Ent.tl (Ent.tl (Ent.tl (Ent.tl (Ent.tl Ent.refl)))))))
  · refine sx ?_
    refine s_rw (t := 67) (v' := .agg L.turn.nd.cells.toArray) rfl (by simp [Ln.turn, Ln.nd, Ln.cells, Nd.cells]) ?_
    refine s_rw (t := 70) (v' := .pointer (some ((⟨b4, 0, none⟩ : Addr).add 0))) rfl rfl ?_
    refine sx ?_
    refine s_callV rfl (npick_s (c := i) (n := (n.k.ps.length : Int)) hi (by omega)) ?_ (hk := chk_held (by exact entq))
    refine sx ?_
    refine s_call rfl (took_s (B := B3) (n := L.turn.nd) (q := q) (i := pkL i n.k.ps.length) rT rq hqd hqm (lim_turn hLL) (by rw [tk, e3, tp]; omega) (by rw [ty]; exact hyL) (by rw [tm]; exact huL) ok3 (by omega)) ?_
    rintro _ _ ⟨rfl, B4, rfl, k4, ok4⟩
    refine ⟨chk_held (by exact entq), ?_⟩
    rw [show B3.k = B4.k from k4.symm]
    refine sx ?_
    refine s_call rfl (nends_s (B := B4) (n := 137438953472) (H := .hb b14 39 q.cells :: oN q (.star L.turn.cs :: .hb b9 52 L.cells :: .hb b4 39 n.cells :: H)) (ok4.mono (by omega)) (by omega) |>.ent (by exact entq)) ?_
    rintro _ _ ⟨rfl, rfl⟩
    refine ⟨chk_seq, ?_⟩
    refine sx ?_
    exact s_ret1 rfl rfl ⟨rfl, rfl⟩ (Ent.tl (Ent.tl (Ent.tl (Ent.tl (Ent.tl (Ent.tl (Ent.tl Ent.refl)))))))
end Go.Sx
