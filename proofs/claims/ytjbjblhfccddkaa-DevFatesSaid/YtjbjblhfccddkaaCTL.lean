/- Part of a proof: Copy of the device. -/
import Derived.Test.YtjbjblhfccddkaaCTK
namespace Go.Sx
open Go Go.Proofs
set_option maxRecDepth 10000
variable {w0 : World} {H : List Ck}
/-- The state of the loop over the blocks. -/
structure CpI (c : Cd) (N : Nat) (es' : List Be) (todo : List (Int × Value)) : Prop where
  left : ∃ L : List Be, todo = L.map Be.kv ∧ (L.map Be.n).Nodup ∧ (∀ e ∈ L, e ∈ c.es) ∧ (∀ m, m ∈ c.es.map Be.n ↔ m ∈ L.map Be.n ∨ m ∈ es'.map Be.n) ∧ (∀ m, m ∈ L.map Be.n → m ∉ es'.map Be.n)
  nodup : (es'.map Be.n).Nodup
  good : ∀ e ∈ es', e.b.Ok c.size N ∧ (0 ≤ e.n ∧ e.n < c.n) ∧ e.b.ab c.size = c.ad.at_ e.n
theorem CpI.start {c : Cd} {N : Nat} (h : c.Ok N) : CpI c N [] c.kvs :=
  ⟨⟨c.es, rfl, h.nodup, fun _ h => h, fun m => by simp, fun m _ => by simp⟩, List.nodup_nil, fun _ h => by simp at h⟩
theorem CpI.done {c : Cd} {N : Nat} {es' : List Be} (h : CpI c N es' []) (hc : c.Ok N) (b m : Nat) (rs ws : Int) : (⟨b, m, c.size, c.n, es', c.off, c.armed, c.how, c.done, rs, ws⟩ : Cd).Ok N ∧ (⟨b, m, c.size, c.n, es', c.off, c.armed, c.how, c.done, rs, ws⟩ : Cd).ad = c.ad := by
  obtain ⟨L, h1, _, _, h4, _⟩ := h.left
  have : L = [] := by simpa using h1.symm
  subst this
  refine ⟨⟨h.nodup, fun e he => (h.good e he).2.1, fun e he => (h.good e he).1, hc.arm, hc.how, hc.sz, hc.nn⟩, ?_⟩
  have : atE c.size es' = atE c.size c.es := by
    funext m
    by_cases hm : m ∈ es'.map Be.n
    · obtain ⟨e, he, rfl⟩ := List.mem_map.1 hm
      obtain ⟨i, hi⟩ := List.getElem?_of_mem he
      rw [atE_of h.nodup hi]
      exact (h.good e he).2.2
    · rw [atE_no hm, atE_no (fun h' => hm (by simpa using (h4 m).1 h'))]
  simp only [Cd.ad, this]
theorem CpI.pick {c : Cd} {N : Nat} {es' : List Be} {A B : List (Int × Value)} {p : Int × Value} (h : CpI c N es' (A ++ p :: B)) (hc : c.Ok N) : ∃ (i : Nat) (e : Be), c.es[i]? = some e ∧ p = e.kv ∧ (es'.find? (fun q => q.n == e.n) = none) ∧
    (∀ (k : Nat) (b : Bk), b.Ok c.size N → b.ab c.size = e.b.ab c.size → CpI c N (es' ++ [⟨e.n, k, b⟩]) (A ++ B)) := by
  obtain ⟨L, h1, h2, h3, h4, h5⟩ := h.left
  obtain ⟨LA, LC, rfl, rfl, hC⟩ := List.map_eq_append_iff.1 h1.symm
  obtain ⟨e, LB, rfl, rfl, rfl⟩ := List.map_eq_cons_iff.1 hC
  have hec := h3 e (by simp)
  obtain ⟨i, hi⟩ := List.getElem?_of_mem hec
  simp only [List.map_append, List.map_cons, List.nodup_append, List.nodup_cons, List.mem_map, List.mem_cons] at h2
  obtain ⟨n1, ⟨n2, n3⟩, n4⟩ := h2
  have hnot : e.n ∉ (LA ++ LB).map Be.n := by
    simp only [List.map_append, List.mem_append, List.mem_map]
    rintro (⟨x, hx, he⟩ | ⟨x, hx, he⟩)
    · exact n4 x.n ⟨x, hx, rfl⟩ e.n (.inl rfl) he
    · exact n2 ⟨x, hx, he⟩
  have hne : e.n ∉ es'.map Be.n := h5 e.n (by simp)
  refine ⟨i, e, hi, rfl, ?_, fun k b hb hab => ⟨⟨LA ++ LB, by simp, ?_, ?_, ?_, ?_⟩, ?_, ?_⟩⟩
  · rw [List.find?_eq_none]
    intro q hq h'
    exact hne (List.mem_map.2 ⟨q, hq, by simpa using h'⟩)
  · simp only [List.map_append, List.nodup_append]
    refine ⟨n1, n3, fun a ha b' hb' => ?_⟩
    obtain ⟨x, hx, rfl⟩ := List.mem_map.1 ha
    obtain ⟨y, hy, rfl⟩ := List.mem_map.1 hb'
    exact n4 x.n ⟨x, hx, rfl⟩ y.n (.inr ⟨y, hy, rfl⟩)
  · intro x hx
    exact h3 x (by simp only [List.mem_append, List.mem_cons] at hx ⊢; rcases hx with h | h <;> simp [h])
  · intro m
    rw [h4 m]
    simp only [List.map_append, List.map_cons, List.map_nil, List.mem_append, List.mem_cons, List.not_mem_nil, or_false]
    constructor
    · rintro ((h | h | h) | h)
      · exact .inl (.inl h)
      · exact .inr (.inr h)
      · exact .inl (.inr h)
      · exact .inr (.inl h)
    · rintro ((h | h) | h | h)
      · exact .inl (.inl h)
      · exact .inl (.inr (.inr h))
      · exact .inr h
      · exact .inl (.inr (.inl h))
  · intro m hm
    simp only [List.map_append, List.map_cons, List.map_nil, List.mem_append, List.mem_singleton]
    rintro (h' | rfl)
    · exact h5 m (by simp only [List.map_append, List.map_cons, List.mem_append, List.mem_cons] at hm ⊢; rcases hm with h | h <;> simp [h]) h'
    · exact hnot hm
  · simp only [List.map_append, List.map_cons, List.map_nil, List.nodup_append]
    refine ⟨h.nodup, by simp, fun a ha b' hb' => ?_⟩
    simp at hb'
    subst hb'
    rintro rfl
    exact hne ha
  · intro q hq
    rcases List.mem_append.1 hq with h' | h'
    · exact h.good q h'
    · simp at h'
      subst h'
      refine ⟨hb, hc.dom e hec, ?_⟩
      rw [hab]
      exact (atE_of hc.nodup hi).symm
abbrev Cd.cp (c : Cd) (b m : Nat) (es' : List Be) : Cd := ⟨b, m, c.size, c.n, es', c.off, c.armed, c.how, c.done, c.rs, c.ws⟩
set_option maxHeartbeats 4000000 in
theorem copy_s {c : Cd} {N : Nat} (hc : c.Ok N) (hN : N ≤ 1099511627776) : FnS Try.prog w0 (c.on 0 H) 19 #[.pointer (some ⟨c.b, 0, none⟩)] (fun v K =>
      ∃ c' : Cd, c'.Ok N ∧ c'.ad = c.ad ∧ v = .pointer (some ⟨c'.b, 0, none⟩) ∧ K = c.on 0 (c'.on 0 H)) := by
  have hsz := hc.sz
  refine fns_enterD Try.func19 rfl rfl rfl ?_
  refine sx ?_
  refine s_call rfl lock_d ?_
  rintro _ _ ⟨rfl, rfl⟩
  refine ⟨chk_seq, ?_⟩
  refine sx ?_
  refine s_deferF [.pointer (some ⟨c.b, 0, none⟩)] rfl ?_
  refine sx ?_; refine s_dr (.one true 0 (.one true 1 (.one true 2 (.one true 3 (.one true 4 (.one true 5 (.one true 6 (.one true 7 (.one true 9 (.one true 10 (.one true 11 (.one true 12 (.one true 13 (.one true 14 (.one true 15 (.one true 16 (.one true 17 (.one true 18 (.one true 19 (.one true 20 (.one true 21 (.one true 22 (.one true 23 (.one true 24 (.one true 25 (.one true 26 (.one true 27 (.one true 28 (.one true 29 (.one true 30 (.one true 31 (.one true 32 (.one false 8 (.one true 33 (.one false 34 (.one true 35 .nil)))))))))))))))))))))))))))))))))))) mixed (by kernel_rfl) ?_; refine sx ?_
  refine sx ?_
  refine s_kmake fun m => ?_
  refine sx ?_
  refine s_boxA (cs := [.int .i32 0, .int .u32 0, .int .i64 c.size, .int .i64 c.n, .map (some m), .bool c.off, .int .i64 c.armed, .int .i64 c.how, .bool c.done, .int .u64 c.rs, .int .u64 c.ws]) (by kernel_rfl) fun b => ?_
  refine sx ?_
  refine s_mrange (r := c.m) (kvs := c.kvs) rfl (by exact rmq) ?_
  intro r
  refine sx ?_
  refine s_loop (ι := List Be × List (Int × Value) × Option (Int × Value)) (fun _ => [(0, .pointer (some ⟨c.b, 0, none⟩)), (3, .pointer (some ⟨b, 0, none⟩)), (55, .pointer (some ⟨r, 0, none⟩))])
    (fun i => mit r c.m c.kvs i.2.1 i.2.2 :: .hb c.b 74 (c.cells 1) :: stars oBk c.es :: (c.cp b m i.1).on 0 H) (fun i => CpI c N i.1 i.2.1) (fun i => i.2.1.length) ([], c.kvs, none) (CpI.start hc) ?_ (he := ?_)
  rotate_left
  · refine Ent.cons (by exact rmq) (Ent.cons (by exact rmq) (Ent.cons (by exact rmq) ?_))
    show Ent _ (.hb b 74 [.int .i32 0, .int .u32 0, .int .i64 c.size, .int .i64 c.n, .map (some m), .bool c.off, .int .i64 c.armed, .int .i64 c.how, .bool c.done, .int .u64 c.rs, .int .u64 c.ws] :: kmp m [] :: stars oBk [] :: H)
    exact Ent.head (Ent.head stars_nil)
  rintro ⟨es', todo, cur⟩ hI
  have hI : CpI c N es' todo := hI
  show SC _ _ _ _ _ _ _ (mit r c.m c.kvs todo cur :: .hb c.b 74 (c.cells 1) :: stars oBk c.es :: (c.cp b m es').on 0 H)
  refine sx ?_
  refine s_mnext rfl Rm.hd ?_ ?_
  · rintro rfl
    obtain ⟨q1, q2⟩ := hI.done hc b m c.rs c.ws
    refine sx ?_
    refine s_entQ (c.on 1 ((c.cp b m es').on 0 H)) (Ent.itMap.trans (Ent.perm (.swap _ _ _))) ?_
    exact d_ret1 (c := c) rfl rfl ⟨c.cp b m es', q1, q2, rfl, rfl⟩
  · rintro A p B rfl
    obtain ⟨i, e, hi, rfl, hno, hstep⟩ := hI.pick hc
    have hb := hc.bk e (List.mem_of_getElem? hi)
    have l1 := hb.few
    refine sx ?_
    refine s_mentry rfl Rm.hd ?_
    refine s_entL _ (Ent.head (Ent.head (bk_out hi))) ?_
    refine sx ?_
    obtain ⟨G, hG⟩ : ∃ G, G = (c.cp b m es').on 0 H := ⟨_, rfl⟩
    rw [← hG]
    have hRl : RBy w0 (mit r c.m c.kvs (A ++ B) (some e.kv) :: .hb c.b 74 (c.cells 1) :: .hb e.k 82 e.b.cells :: ol 29 e.b.wa e.b.wc e.b.ws :: ob e.b.l.a e.b.l.c e.b.l.xs :: stars oSB e.b.ws :: stars oBk (c.es.eraseIdx i) :: G) e.b.l.a e.b.l.c e.b.l.xs := RBy.tl (RBy.tl (RBy.tl (RBy.tl RBy.hd)))
    have hRs : RSl w0 (mit r c.m c.kvs (A ++ B) (some e.kv) :: .hb c.b 74 (c.cells 1) :: .hb e.k 82 e.b.cells :: ol 29 e.b.wa e.b.wc e.b.ws :: ob e.b.l.a e.b.l.c e.b.l.xs :: stars oSB e.b.ws :: stars oBk (c.es.eraseIdx i) :: G) e.b.wa e.b.wc e.b.ws := RSl.hd.tl.tl.tl
    have hRw : ∀ s ∈ e.b.ws, RBy w0 (mit r c.m c.kvs (A ++ B) (some e.kv) :: .hb c.b 74 (c.cells 1) :: .hb e.k 82 e.b.cells :: ol 29 e.b.wa e.b.wc e.b.ws :: ob e.b.l.a e.b.l.c e.b.l.xs :: stars oSB e.b.ws :: stars oBk (c.es.eraseIdx i) :: G) s.a s.c s.xs := fun s hs =>
      RBy.tl (RBy.tl (RBy.tl (RBy.tl (RBy.tl (RBy.ent (RBy.hd (E := 5) (H := [])) (stars_mem (f := oSB) hs))))))
    have hll : e.b.l.xs.length ≤ 4096 := by
      by_cases h : e.b.l.a = none
      · rw [(hb.nil h).1]; simp
      · rw [hb.len h]; exact hsz.2
    refine s_drH [.hb e.k 82 e.b.cells] (.one true 0 (.one true 1 (.one true 2 (.one true 3 (.one true 5 (.one true 6 (.one true 7 (.one true 8 (.one false 4 (.one true 9 (.one false 10 (.one true 11 .nil)))))))))))) mixed (by kernel_rfl) ?_ (he := by exact entq)
    refine sx ?_
    refine s_call rfl (bclone_s hRl (by omega)) ?_
    rintro _ _ ⟨s2, k1, k2, k3, rfl, rfl⟩
    refine ⟨chk_held (by exact entq), ?_⟩
    refine sx ?_
    refine s_boxA rfl (fun kx => ?_) (hk := fun _ => chk_held (by exact entq))
    refine sx ?_
    generalize hK : mit r c.m c.kvs (A ++ B) (some e.kv) :: .hb c.b 74 (c.cells 1) :: .hb e.k 82 e.b.cells :: ol 29 e.b.wa e.b.wc e.b.ws :: ob e.b.l.a e.b.l.c e.b.l.xs :: stars oSB e.b.ws :: stars oBk (c.es.eraseIdx i) :: G = K at hRl hRs hRw ⊢
    refine s_loop (ι := Nat × Option Addr × Nat × List SB) (fun j => [(0, .pointer (some ⟨c.b, 0, none⟩)), (3, .pointer (some ⟨b, 0, none⟩)), (55, .pointer (some ⟨r, 0, none⟩)), (4, .int .i64 e.n), (6, .pointer (some ⟨kx, 0, none⟩)), (75, .slice e.b.wa e.b.ws.length e.b.wc), (76, .int .i64 e.b.ws.length), (77, .int .i64 j.1)])
      (fun j => .hb kx 82 (⟨s2, e.b.bad, j.2.1, j.2.2.1, j.2.2.2⟩ : Bk).cells :: ol 29 j.2.1 j.2.2.1 j.2.2.2 :: stars oSB j.2.2.2 :: ob s2.a s2.c s2.xs :: K) (fun j => j.1 ≤ e.b.ws.length ∧ j.2.2.2.map SB.xs = (e.b.ws.take j.1).map SB.xs) (fun j => e.b.ws.length - j.1) (0, none, 0, []) ⟨Nat.zero_le _, rfl⟩ ?_ (he := Ent.head (Ent.addNil (Ent.addStar Ent.refl)))
    rintro ⟨j, wa, wc, ws⟩ ⟨hj, hws⟩
    have hj : j ≤ e.b.ws.length := hj
    have hws : ws.map SB.xs = (e.b.ws.take j).map SB.xs := hws
    show SC _ _ _ _ _ _ _ (.hb kx 82 (⟨s2, e.b.bad, wa, wc, ws⟩ : Bk).cells :: ol 29 wa wc ws :: stars oSB ws :: ob s2.a s2.c s2.xs :: K)
    have hwl : ws.length = j := by
      have := congrArg List.length hws
      simp at this; omega
    refine sx ?_
    refine s_if rfl (fun h3 => ?_) (fun h3 => ?_)
    rotate_left
    · refine sx ?_
      obtain rfl : j = e.b.ws.length := by omega
      rw [List.take_of_length_le (Nat.le_refl _)] at hws
      subst hK
      subst hG
      refine s_entL (.hb (c.cp b m es').b 74 ((c.cp b m es').cells 0) :: kmp (c.cp b m es').m (c.cp b m es').kvs :: stars oBk (c.cp b m es').es :: .hb kx 82 (⟨s2, e.b.bad, wa, wc, ws⟩ : Bk).cells :: ol 29 wa wc ws :: ob s2.a s2.c s2.xs :: stars oSB ws :: mit r c.m c.kvs (A ++ B) (some e.kv) :: .hb c.b 74 (c.cells 1) :: .hb e.k 82 e.b.cells :: ol 29 e.b.wa e.b.wc e.b.ws :: ob e.b.l.a e.b.l.c e.b.l.xs :: stars oSB e.b.ws :: stars oBk (c.es.eraseIdx i) :: H)
        (Ent.cons (by exact rmq) (Ent.cons (by exact rmq) (Ent.cons (by exact rmq) (Ent.cons (by exact rmq) (Ent.cons (by exact rmq) (Ent.cons (by exact rmq) (Ent.cons (by exact rmq) (Ent.cons (by exact rmq) (Ent.cons (by exact rmq) (Ent.cons (by exact rmq) (Ent.cons (by exact rmq) (Ent.cons (by exact rmq) (Ent.cons (by exact rmq) (Ent.cons (by exact rmq) Ent.refl)))))))))))))) ?_
      have hd := hc.dom e (List.mem_of_getElem? hi)
      have hnn := hc.nn
      refine sx ?_
      refine s_mput rfl rfl rfl (i64_wf ⟨by omega, by omega⟩) (by exact at_) ?_
      refine sx ?_
      obtain ⟨b', hb'⟩ : ∃ b' : Bk, b' = ⟨s2, e.b.bad, wa, wc, ws⟩ := ⟨_, rfl⟩
      have hok : b'.Ok c.size N := by
        rw [hb']
        refine ⟨by show ws.length ≤ N; omega, fun h => ?_, fun h => ?_, fun q hq => ?_⟩
        · exact k2 h
        · show s2.xs.length = c.size
          rw [k1]
          exact hb.len (fun h1 => h (k3 h1))
        · have h1 : q.xs ∈ ws.map SB.xs := List.mem_map_of_mem hq
          rw [hws] at h1
          obtain ⟨q', hq', he⟩ := List.mem_map.1 h1
          rw [← he]
          exact hb.wlen q' hq'
      have hab : b'.ab c.size = e.b.ab c.size := by
        rw [hb']
        simp only [Bk.ab, hws, k1]
        by_cases h1 : e.b.l.a = none
        · rw [h1, k3 h1]
        · have h2 : ¬ s2.a = none := fun h2 => by
            have h3 := (k2 h2).1
            have h4 := hb.len h1
            rw [k1] at h3
            rw [h3] at h4
            simp at h4
            omega
          have e1 : s2.a.isNone = false := by cases h : s2.a with
            | none => exact absurd h h2
            | some _ => rfl
          have e2 : e.b.l.a.isNone = false := by cases h : e.b.l.a with
            | none => exact absurd h h1
            | some _ => rfl
          rw [e1, e2]
      refine s_again (es' ++ [⟨e.n, kx, b'⟩], A ++ B, some e.kv) (hstep kx b' hok hab) (by simp) (he := ?_)
      show Ent _ (mit r c.m c.kvs (A ++ B) (some e.kv) :: .hb c.b 74 (c.cells 1) :: stars oBk c.es :: .hb b 74 ((c.cp b m es').cells 0) :: kmp m ((es' ++ [(⟨e.n, kx, b'⟩ : Be)]).map Be.kv) :: stars oBk (es' ++ [(⟨e.n, kx, b'⟩ : Be)]) :: H)
      show Ent (.hb b 74 ((c.cp b m es').cells 0) :: kmp m (aput (es'.map Be.kv) e.n (.pointer (some ⟨kx, 0, none⟩))) :: stars oBk es' :: .hb kx 82 (⟨s2, e.b.bad, wa, wc, ws⟩ : Bk).cells :: ol 29 wa wc ws :: ob s2.a s2.c s2.xs :: stars oSB ws :: mit r c.m c.kvs (A ++ B) (some e.kv) :: .hb c.b 74 (c.cells 1) :: .hb e.k 82 e.b.cells :: ol 29 e.b.wa e.b.wc e.b.ws :: ob e.b.l.a e.b.l.c e.b.l.xs :: stars oSB e.b.ws :: stars oBk (c.es.eraseIdx i) :: H) _
      rw [aput_kvs (b := b') hno]
      refine Ent.cons (by exact rmq) (Ent.cons (by exact rmq) ?_)
      refine Ent.trans (H' := .hb e.k 82 e.b.cells :: ol 29 e.b.wa e.b.wc e.b.ws :: ob e.b.l.a e.b.l.c e.b.l.xs :: stars oSB e.b.ws :: stars oBk (c.es.eraseIdx i) :: .hb b 74 ((c.cp b m es').cells 0) :: kmp m ((es' ++ [(⟨e.n, kx, b'⟩ : Be)]).map Be.kv) :: stars oBk (es' ++ [(⟨e.n, kx, b'⟩ : Be)]) :: H) ?_ ?_
      · refine Ent.cons (by exact rmq) (Ent.cons (by exact rmq) (Ent.cons (by exact rmq) (Ent.cons (by exact rmq) (Ent.cons (by exact rmq) (Ent.cons (by exact rmq) (Ent.cons (by exact rmq) ?_))))))
        rw [hb']
        refine Ent.trans ?_ (stars_snoc (f := oBk) (s := (⟨e.n, kx, ⟨s2, e.b.bad, wa, wc, ws⟩⟩ : Be)) (F := es'))
        show Ent _ (.hb kx 82 (⟨s2, e.b.bad, wa, wc, ws⟩ : Bk).cells :: ol 29 wa wc ws :: ob s2.a s2.c s2.xs :: stars oSB ws :: stars oBk es' :: H)
        exact Ent.cons (by exact rmq) (Ent.cons (by exact rmq) (Ent.cons (by exact rmq) (Ent.cons (by exact rmq) (Ent.cons (by exact rmq) Ent.refl))))
      · have h := bk_put (b := e.b) (H := .hb b 74 ((c.cp b m es').cells 0) :: kmp m ((es' ++ [(⟨e.n, kx, b'⟩ : Be)]).map Be.kv) :: stars oBk (es' ++ [(⟨e.n, kx, b'⟩ : Be)]) :: H) hi
        rwa [show c.es.set i { e with b := e.b } = c.es from set_same hi] at h
    obtain ⟨s, hs⟩ : ∃ s, e.b.ws[j]? = some s := ⟨_, List.getElem?_eq_getElem (by omega)⟩
    have hsm := List.mem_of_getElem? hs
    have hsl := hb.wlen s hsm
    have hRj : RSl w0 (.hb kx 82 (⟨s2, e.b.bad, wa, wc, ws⟩ : Bk).cells :: ol 29 wa wc ws :: stars oSB ws :: ob s2.a s2.c s2.xs :: K) e.b.wa e.b.wc e.b.ws := hRs.tl.tl.tl.tl
    refine sx ?_
    have hRx : RBy w0 (.hb kx 82 (⟨s2, e.b.bad, wa, wc, ws⟩ : Bk).cells :: ol 29 wa wc ws :: stars oSB ws :: ob s2.a s2.c s2.xs :: K) s.a s.c s.xs := (hRw s hsm).tl.tl.tl.tl
    clear hRj
    refine s_drU [.hb kx 82 (⟨s2, e.b.bad, wa, wc, ws⟩ : Bk).cells] (.one true 0 (.one true 1 (.one true 2 (.one true 3 (.one true 4 (.one true 5 (.one false 6 (.one false 7 (.one false 8 (.one true 9 (.one true 10 .nil))))))))))) (.one false 11 .nil) [11] #[true, true, true, true, true, true, true, true, true, true, true, false] mixed (by kernel_rfl) ?_ (he := by exact entq)
    refine sx ?_
    refine s_call rfl (bclone_s hRx (by omega)) ?_
    rintro _ _ ⟨s3, j1, j2, j3, rfl, rfl⟩
    refine ⟨chk_held (by exact entq), ?_⟩
    refine sx ?_
    refine s_bsl ([s3] : List SB) rfl rfl fun b1 => ?_
    refine sx ?_
    refine s_app (ys := [s3]) ?_
    intro a1 c1'
    refine sx ?_
    refine s_bar ?_
    refine sx ?_
    have k4 : s3.xs.length = c.size := by rw [j1]; exact hsl
    refine s_again (j + 1, a1, c1', ws ++ [s3]) ⟨by show j + 1 ≤ _; omega, ?_⟩ (by show e.b.ws.length - (j + 1) < e.b.ws.length - j; omega) (he := ?_)
    · show (ws ++ [s3]).map SB.xs = (e.b.ws.take (j + 1)).map SB.xs
      rw [snocT hs, List.map_append, List.map_append, hws, List.map_cons, List.map_cons, j1]
    · show Ent _ (.hb kx 82 (⟨s2, e.b.bad, a1, c1', ws ++ [s3]⟩ : Bk).cells :: ol 29 a1 c1' (ws ++ [s3]) :: stars oSB (ws ++ [s3]) :: ob s2.a s2.c s2.xs :: K)
      refine Ent.tl ?_
      show Ent (ob s3.a s3.c s3.xs :: .hb kx 82 (⟨s2, e.b.bad, a1, c1', ws ++ [s3]⟩ : Bk).cells :: ol 29 a1 c1' (ws ++ [s3]) :: stars oSB ws :: ob s2.a s2.c s2.xs :: K) _
      refine Ent.cons (by exact rmq) (Ent.cons (by exact rmq) ?_)
      exact stars_snoc (f := oSB) (s := s3) (F := ws)
end Go.Sx
