/- The law NodeEncodes, walked. (Of the seat that holds NodeEncodes alone.) -/
import Derived.Test.YtkcabddbeclokaaGreatCWG
import Derived.Test.YtkcabddbeclokaaGreatCWC
import Derived.Test.YtkcabddbeclokaaGreatCW5
namespace Go.Sx
open Go Go.Proofs
set_option maxRecDepth 10000
variable {w0 : World} {H : List Ck}
theorem encNR_len {size : Int} {d : List Int × List Bs} {ms : List MD} : (encNR size d ms).length ≤ 4096 := by
  unfold encNR
  split
  · rename_i h
    obtain ⟨g1, g2, g3, g4⟩ := chkN_0 h
    have hs := sizedB_bd (chkK_0 g1).1
    rw [encN, List.length_append, encK_len, layM_len]
    omega
  · exact Nat.zero_le _
set_option maxHeartbeats 2000000 in
theorem encoded_s {B : NB} {cnt : Nat} {n q : Nd} {size : Int} (hn : RNd w0 H n) (hq : RNd w0 H q) (hd : q.k.d = n.k.d) (hm : q.md = n.md) (hs : n.Small) (hI : ∀ p ∈ n.k.ps, I64 p) (hB : B.Ok cnt) (hc : cnt ≤ 1048576) :
    FnS Tryz.prog w0 (B.ck :: H) 7 #[.pointer (some ⟨B.k, 0, none⟩), .int .i64 size, .agg n.cells.toArray, .agg q.cells.toArray] (fun v H' => v = .bool true ∧ NBR B (cnt + 2) H v H') := by
  refine fns_enter Tryz.func7 rfl rfl rfl ?_
  have hsp := hs.p
  have hsk := hs.k
  have hsm := hs.m
  have hsb : bytesK n.k.d + sumM n.md ≤ 60000000000 := hs.b
  have hx : q.x = n.x := Prod.ext hd hm
  have hqs : q.Small := by
    have e1 : q.k.ps = n.k.ps := congrArg Prod.fst hd
    have e2 : q.k.keys = n.k.keys := congrArg Prod.snd hd
    exact ⟨by rw [e1]; exact hsp, by rw [e2]; exact hsk, by rw [hm]; exact hsm⟩
  have hqp := hqs.p
  have hqm := hqs.m
  refine sx ?_
  refine s_boxA rfl fun b6 => ?_
  refine sx ?_
  refine s_boxA rfl fun b7 => ?_
  refine sx ?_
  refine s_loop (fun i : Nat × NB => [(0, .pointer (some ⟨B.k, 0, none⟩)), (1, .int .i64 size), (6, .pointer (some ⟨b6, 0, none⟩)), (7, .pointer (some ⟨b7, 0, none⟩)), (9, .int .i64 i.1)]) (fun i => .hb b7 28 q.cells :: .hb b6 28 n.cells :: i.2.ck :: H) (fun i => i.1 ≤ 2 ∧ i.2.k = B.k ∧ i.2.Ok (cnt + i.1)) (fun i => 2 - i.1) (0, B) ⟨by simp only; omega, rfl, hB⟩ ?_
  rintro ⟨i, B1⟩ ⟨hi, hk1, ok1⟩
  simp only at hi hk1 ok1 ⊢
  refine sx ?_
  refine s_if rfl (fun t1 => ?_) (fun t1 => ?_)
  · have rn : RNd w0 (.hb b7 28 q.cells :: .hb b6 28 n.cells :: B1.ck :: H) n := hn.tl.tl.tl
    have rq : RNd w0 (.hb b7 28 q.cells :: .hb b6 28 n.cells :: B1.ck :: H) q := hq.tl.tl.tl
    have rk := rn.k
    have rqk := rq.k
    refine sx ?_
    refine s_callV rfl (ncheck_s (n := n) (size := size) rn hI (by omega)) ?_
    refine sx ?_
    refine s_callV rfl (nroom_s (k := n.k) (size := size) rk (by omega)) ?_
    refine sx ?_
    refine s_call rfl (nencode_s (n := n) (size := size) rn hI (by omega)) ?_
    rintro _ _ ⟨a12, c12, rfl, rfl⟩
    refine ⟨chk_seq, ?_⟩
    refine sx ?_
    refine s_callV rfl (nsplit_s (n := n) (size := size) rn.tl hI hs) ?_
    refine sx ?_
    refine s_call rfl (rnencode_s (n := q) (size := size) rq.tl (by omega) (by omega)) ?_
    rintro _ _ ⟨a16, c16, rfl, rfl⟩
    refine ⟨chk_seq, ?_⟩
    rw [hd, hm]
    refine sx ?_
    have h2 := rsplit_s (n := q) (size := size) rq.tl.tl (H := ob a16 c16 (encNR size n.k.d n.md) :: ob a12 c12 (encNR size n.k.d n.md) :: .hb b7 28 q.cells :: .hb b6 28 n.cells :: B1.ck :: H) hqs
    rw [hx] at h2
    refine s_callV rfl h2 ?_
    refine sx ?_
    have h3 := rncheck_s (n := q) (size := size) rq.tl.tl (H := ob a16 c16 (encNR size n.k.d n.md) :: ob a12 c12 (encNR size n.k.d n.md) :: .hb b7 28 q.cells :: .hb b6 28 n.cells :: B1.ck :: H) (by omega) (by omega)
    rw [hd, hm] at h3
    refine s_callV rfl h3 ?_
    refine sx ?_
    have h4 := rroom_s (k := q.k) (size := size) rqk.tl.tl (H := ob a16 c16 (encNR size n.k.d n.md) :: ob a12 c12 (encNR size n.k.d n.md) :: .hb b7 28 q.cells :: .hb b6 28 n.cells :: B1.ck :: H) (by rw [hd]; omega)
    rw [hd] at h4
    refine s_callV rfl h4 ?_
    refine sx ?_
    have hle := encNR_len (size := size) (d := n.k.d) (ms := n.md)
    rw [← hk1]
    refine s_call rfl (FnS.ent (nkeep_s (B := B1) (n := cnt + i) (a := a12) (c := c12) (xs := encNR size n.k.d n.md) (H := ob a16 c16 (encNR size n.k.d n.md) :: .hb b7 28 q.cells :: .hb b6 28 n.cells :: H) ok1 (by omega) (by omega)) (by exact entq)) ?_
    rintro _ _ ⟨B2, rfl, hk2, ok2⟩
    refine ⟨chk_seq, ?_⟩
    refine sx ?_
    exact s_again (i + 1, B2) ⟨by simp only; omega, by simp only; omega, ok2⟩ (by simp only; omega) (he := by exact entq)
  · obtain rfl : i = 2 := by omega
    refine sx ?_
    exact s_ret1 rfl rfl ⟨rfl, B1, rfl, hk1, ok1⟩ (by exact entq)
theorem sumM_TM (ms : List Mg) : sumM ((ms.map TM).map Mg.d) = sumM (ms.map Mg.d) := by
  induction ms with
  | nil => rfl
  | cons m r ih =>
    simp only [sumM, List.map_cons, List.sum_cons] at ih ⊢
    rw [ih]
    simp [lenM, TM, tV]
theorem keysB_mem {ks : List Bs} {x : Bs} (h : x ∈ ks) : 2 + x.length ≤ keysB ks := by
  induction ks with
  | nil => cases h
  | cons a r ih =>
    simp only [keysB, List.map_cons, List.sum_cons] at ih ⊢
    rcases List.mem_cons.1 h with rfl | h
    · omega
    · have := ih h
      omega
theorem wM_mem {l : List MD} {m : MD} (h : m ∈ l) : 1 + m.lo.length + m.hi.length + m.v.length ≤ wM l := by
  induction l with
  | nil => cases h
  | cons a r ih =>
    simp only [wM, List.map_cons, List.sum_cons] at ih ⊢
    rcases List.mem_cons.1 h with rfl | h
    · omega
    · have := ih h
      omega
theorem keysB_len' (ps : List Bs) : ps.length ≤ keysB ps := by
  induction ps with
  | nil => exact Nat.zero_le _
  | cons x r ih => simp only [keysB, List.map_cons, List.sum_cons, List.length_cons] at *; omega
theorem lim_wt {n : Nd} {x : Int} (h : x ≤ 2147483647) (he : x ≤ 2147483647 → x = n.k.ps.length + wK n.k.keys + wM n.md) : n.Lim := by
  have hs := Nd.small_of h he
  have h1 := hs.p
  have h2 := hs.k
  have h3 := hs.m
  have h0 := he h
  have h4 := sumM_len n.md
  rw [show n.md.length = n.ms.length from List.length_map _] at h4
  have h5 := keysB_len' n.k.keys
  rw [show n.k.keys.length = n.k.ks.length from List.length_map _] at h5
  refine ⟨by omega, by omega, by omega, fun p hp => ?_, fun m hm => ?_⟩
  · have := keysB_mem (ks := n.k.keys) (x := p.xs) (List.mem_map.2 ⟨p, hp, rfl⟩)
    omega
  · have := wM_mem (l := n.md) (List.mem_map.2 ⟨m, hm, rfl⟩)
    have e1 : m.d.lo = m.lo := rfl
    have e2 : m.d.hi = m.hi := rfl
    have e3 : m.d.v = m.v := rfl
    rw [e1, e2, e3] at this
    omega
theorem small_x {n q : Nd} (h : n.Small) (e1 : q.k.ps.length = n.k.ps.length) (e2 : q.k.keys = n.k.keys) (e3 : sumM q.md = sumM n.md) : q.Small :=
  ⟨by rw [e1]; exact h.p, by rw [e2]; exact h.k, by rw [e3]; exact h.m⟩
set_option maxHeartbeats 4000000 in
theorem nencodes_s {size : Int} {n o : Nd} (hn : RNd w0 H n) (ho : RNd w0 H o) (hft : n.Fit) (hfo : o.Fit) (hI : ∀ p ∈ n.k.ps, I64 p) (hJ : ∀ p ∈ o.k.ps, I64 p) : FnV Tryz.prog w0 H 3 #[.int .i64 size, .agg n.cells.toArray, .agg o.cells.toArray] (.bool true) := by
  refine fns_enter Tryz.func3 rfl rfl rfl ?_
  refine sx ?_
  refine s_boxA rfl fun b4 => ?_
  refine sx ?_
  refine s_boxA rfl fun b5 => ?_
  refine sx ?_
  refine s_callV rfl nshown_s ?_
  refine sx ?_
  refine s_dr (.one true 0 (.one true 2 (.one false 1 (.one false 3 (.one true 4 (.one true 5 .nil)))))) mixed (by kernel_rfl) ?_
  refine sx ?_
  refine s_call rfl (nweight_s (n := n) (by exact rnd) hft) ?_
  rintro _ _ ⟨x, rfl, hx0, hx1, rfl⟩
  refine ⟨chk_held (by exact entq), ?_⟩
  refine sx ?_
  refine s_call rfl (nweight_s (n := o) (by exact rnd) hfo) ?_
  rintro _ _ ⟨y, rfl, hy0, hy1, rfl⟩
  refine ⟨chk_held (by exact entq), ?_⟩
  refine sx ?_
  refine s_if rfl (fun t1 => ?_) (fun t1 => ?_)
  · refine sx ?_
    exact s_ret1 rfl rfl ⟨rfl, rfl⟩ (by exact entq)
  have hL := lim_wt (by omega) hx1
  have hs := Nd.small_of (by omega) hx1
  have ht := Nd.small_of (by omega) hy1
  have hsp := hs.p
  refine sx ?_
  refine s_boxA rfl fun b8 => ?_
  refine sx ?_
  refine s_call rfl (nlend_s (n := n) (by exact rnd) hL) ?_
  rintro _ _ ⟨L, rfl, hpm, hLd, hLm, rfl⟩
  refine ⟨chk_seq, ?_⟩
  refine sx ?_
  refine s_alloc fun b9 => ?_
  refine sx ?_
  have rL : RNd w0 (.hb b9 38 L.cells :: .star L.cs :: .hb b5 28 o.cells :: .hb b4 28 n.cells :: H) L.nd := Ln.rnd.tl
  have rn : RNd w0 (.hb b9 38 L.cells :: .star L.cs :: .hb b5 28 o.cells :: .hb b4 28 n.cells :: H) n := hn.tl.tl.tl.tl
  have ro : RNd w0 (.hb b9 38 L.cells :: .star L.cs :: .hb b5 28 o.cells :: .hb b4 28 n.cells :: H) o := ho.tl.tl.tl.tl
  have e1 : L.nd.k.ps = n.k.ps := congrArg Prod.fst hLd
  have e2 : L.nd.k.keys = n.k.keys := congrArg Prod.snd hLd
  have e3 : L.nd.k.ks.length = n.k.ks.length := by have := congrArg List.length e2; simpa [Kd.keys] using this
  have e4 : L.nd.ms.length = n.ms.length := by have := congrArg List.length hLm; simpa [Nd.md] using this
  have hsL : L.nd.Small := small_x hs (by rw [e1]) e2 (by rw [hLm])
  have hIL : ∀ p ∈ L.nd.k.ps, I64 p := by rw [e1]; exact hI
  have hLL : L.nd.Lim := by
    refine ⟨by rw [e1]; exact hL.ps, by rw [e3]; exact hL.ks, by rw [e4]; exact hL.ms, fun p hp => ?_, fun m hm => ?_⟩
    · have : p.xs ∈ n.k.keys := by rw [← e2]; exact List.mem_map.2 ⟨p, hp, rfl⟩
      obtain ⟨r, hr, e⟩ := List.mem_map.1 this
      rw [← e]; exact hL.kl r hr
    · have : m.d ∈ n.md := by rw [← hLm]; exact List.mem_map.2 ⟨m, hm, rfl⟩
      obtain ⟨r, hr, e⟩ := List.mem_map.1 this
      have e5 : r.lo = m.lo := congrArg MD.lo e
      have e6 : r.hi = m.hi := congrArg MD.hi e
      have e7 : r.v = m.v := congrArg MD.v e
      rw [← e5, ← e6, ← e7]; exact hL.ml r hr
  refine s_entL ((nb0 b8).ck :: .hb b9 38 L.cells :: .star L.cs :: .hb b5 28 o.cells :: .hb b4 28 n.cells :: H) (Ent.trans (H' := .hb b8 36 [.slice none 0 0, .slice none 0 0, .slice none 0 0, .slice none 0 0, .slice none 0 0] :: .hb b9 38 L.cells :: .star L.cs :: .hb b5 28 o.cells :: .hb b4 28 n.cells :: H) (by exact ent) nb0_ent) ?_
  refine s_call rfl (encoded_s (B := nb0 b8) (cnt := 0) (n := L.nd) (q := n) (size := size) rL rn hLd.symm hLm.symm hsL hIL (nb0_ok b8) (by omega)) ?_
  rintro _ _ ⟨rfl, B1, rfl, k1, ok1⟩
  have k1 : B1.k = b8 := k1
  refine ⟨chk_seq, ?_⟩
  rw [show b8 = B1.k from k1.symm]
  refine sx ?_
  refine s_call rfl (encoded_s (B := B1) (n := o) (q := o) (size := size) ro ro rfl rfl ht hJ ok1 (by omega)) ?_
  rintro _ _ ⟨rfl, B2, rfl, k2, ok2⟩
  refine ⟨chk_seq, ?_⟩
  rw [show B1.k = B2.k from k2.symm]
  refine sx ?_
  refine s_call rfl (encoded_s (B := B2) (n := L.nd) (q := n) (size := size) rL rn hLd.symm hLm.symm hsL hIL ok2 (by omega)) ?_
  rintro _ _ ⟨rfl, B3, rfl, k3, ok3⟩
  refine ⟨chk_seq, ?_⟩
  rw [show B2.k = B3.k from k3.symm]
  refine sx ?_
  refine s_call rfl (FnS.ent (nstays_s (L := L) (n := n) (H := B3.ck :: .hb b9 38 L.cells :: .hb b5 28 o.cells :: .hb b4 28 n.cells :: H) hpm hLd hLm hn.tl.tl.tl.tl.tl hL) (by exact entq)) ?_
  rintro _ _ ⟨rfl, rfl⟩
  refine ⟨chk_seq, ?_⟩
  clear rL rn ro
  refine sx ?_
  refine s_call rfl (nturn_s (L := L) (H := B3.ck :: .hb b9 38 L.cells :: .hb b5 28 o.cells :: .hb b4 28 n.cells :: H) (by rw [hpm]; rfl) hLL) ?_
  rintro _ _ ⟨q, rfl, hqd, hqm, rfl⟩
  refine ⟨chk_seq, ?_⟩
  refine sx ?_
  refine s_alloc fun b14 => ?_
  refine sx ?_
  refine s_rw (t := 54) (v' := .agg L.turn.nd.cells.toArray) rfl (by simp [Ln.turn, Ln.nd, Ln.cells, Nd.cells]) ?_
  refine s_entL (B3.ck :: .hb b14 28 q.cells :: oN q (.star L.turn.cs :: .hb b9 38 L.cells :: .hb b5 28 o.cells :: .hb b4 28 n.cells :: H)) (by exact ent) ?_
  have rq : RNd w0 (.hb b14 28 q.cells :: oN q (.star L.turn.cs :: .hb b9 38 L.cells :: .hb b5 28 o.cells :: .hb b4 28 n.cells :: H)) q := RNd.oN.tl
  have rT : RNd w0 (.hb b14 28 q.cells :: oN q (.star L.turn.cs :: .hb b9 38 L.cells :: .hb b5 28 o.cells :: .hb b4 28 n.cells :: H)) L.turn.nd := Ln.rnd.tl.tl.tl.tl
  have hsT : L.turn.nd.Small := small_x hsL (by simp [Ln.turn, Ln.nd]) rfl (sumM_TM L.ms)
  have hIT : ∀ p ∈ L.turn.nd.k.ps, I64 p := fun p hp => by
    obtain ⟨r, _, e⟩ := List.mem_map.1 (show p ∈ L.ps.map xI from hp)
    rw [← e]; exact xI_bd r
  refine sx ?_
  refine s_call rfl (encoded_s (B := B3) (n := L.turn.nd) (q := q) (size := size) rT rq hqd hqm hsT hIT ok3 (by omega)) ?_
  rintro _ _ ⟨rfl, B4, rfl, k4, ok4⟩
  refine ⟨chk_seq, ?_⟩
  rw [show B3.k = B4.k from k4.symm]
  refine sx ?_
  refine s_call rfl (nends_s (B := B4) (H := .hb b14 28 q.cells :: oN q (.star L.turn.cs :: .hb b9 38 L.cells :: .hb b5 28 o.cells :: .hb b4 28 n.cells :: H)) ok4 (by omega)) ?_
  rintro _ _ ⟨rfl, rfl⟩
  refine ⟨chk_seq, ?_⟩
  refine sx ?_
  exact s_ret1 rfl rfl ⟨rfl, rfl⟩ (Ent.tl (Ent.tl (Ent.tl (Ent.tl (Ent.tl (Ent.tl (Ent.tl (Ent.tl Ent.refl))))))))
end Go.Sx
