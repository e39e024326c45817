/- How many ranges can be gone: each begins where a message's range begins or ends. -/
import Derived.Test.YtimakbpghggdfaaGreatCGDj
namespace Go.Sx
open Go
theorem nodup_len : ∀ {l m : List Bs}, l.Nodup → (∀ x ∈ l, x ∈ m) → l.length ≤ m.length
  | [], m, _, _ => Nat.zero_le _
  | x :: l, m, hn, hs => by
    have hx := hs x (by simp)
    have hn := List.nodup_cons.1 hn
    have := nodup_len (l := l) (m := m.erase x) hn.2 fun y hy => (List.mem_erase_of_ne (fun e => hn.1 (by rw [← e]; exact hy))).2 (hs y (by simp [hy]))
    rw [List.length_erase_of_mem hx] at this
    have := List.length_pos_of_mem hx
    simp only [List.length_cons]
    omega
theorem lo_fo {d : T3} (h : ¬ emR (foR d) = true) : (foR d).1 = d.1 := by
  unfold foR at h ⊢
  split
  · rename_i g; rw [if_pos g] at h; exact absurd emR_t30 h
  · split <;> rfl
theorem lo_me {a b : T3} (h : ¬ emR (meR a b) = true) : (meR a b).1 = a.1 ∨ (meR a b).1 = b.1 := by
  unfold meR at h ⊢
  split
  · rename_i g; rw [if_pos g] at h; exact absurd emR_t30 h
  · rename_i g
    rw [if_neg g] at h
    rw [lo_fo h]
    simp only
    split
    · exact .inr rfl
    · exact .inl rfl
theorem lo_mi1 {a b : T3} (h : ¬ emR (miR a b).1 = true) : (miR a b).1.1 = a.1 ∨ (miR a b).1.1 = [] := by
  unfold miR at h ⊢
  split
  · rename_i g; rw [if_pos g] at h; exact .inl (lo_fo h)
  · rename_i g; rw [if_neg g] at h; exact lo_me h
theorem lo_mi2 {a b : T3} (h : ¬ emR (miR a b).2 = true) : (miR a b).2.1 = a.1 ∨ (miR a b).2.1 = b.2.1 := by
  unfold miR at h ⊢
  split
  · rename_i g; rw [if_pos g] at h; exact absurd emR_t30 h
  · rename_i g
    rw [if_neg g] at h
    simp only at h ⊢
    split
    · rename_i k; rw [if_pos k] at h; exact absurd emR_t30 h
    · rename_i k; rw [if_neg k] at h; exact lo_me h
theorem me_em {a b : T3} (h : emR a = true) : emR (meR a b) = true := by
  unfold meR
  rw [if_pos (by rw [h]; rfl)]
  exact emR_t30
theorem wo_em : ∀ {l : List T3} {r : T3}, emR r = true → woR r l = []
  | [], r, h => by rw [woR, if_pos h]
  | x :: l, r, h => by rw [woR, if_pos (me_em h)]; exact wo_em h
theorem wo_lo : ∀ {l : List T3} {r p : T3}, p ∈ woR r l → p.1 = r.1 ∨ p.1 = [] ∨ ∃ x ∈ l, p.1 = x.2.1
  | [], r, p, h => by
    unfold woR at h
    split at h
    · cases h
    · rw [List.mem_singleton.1 h]; exact .inl rfl
  | x :: l, r, p, h => by
    unfold woR at h
    split at h
    · rcases wo_lo h with g | g | ⟨y, hy, g⟩
      · exact .inl g
      · exact .inr (.inl g)
      · exact .inr (.inr ⟨y, by simp [hy], g⟩)
    · rcases List.mem_append.1 h with h | h
      · split at h
        · cases h
        · rename_i k
          rw [List.mem_singleton.1 h]
          exact (lo_mi1 k).imp id .inl
      · by_cases k : emR (miR r x).2 = true
        · rw [wo_em k] at h; cases h
        · rcases wo_lo h with g | g | ⟨y, hy, g⟩
          · rw [g]
            rcases lo_mi2 k with e | e
            · exact .inl e
            · exact .inr (.inr ⟨x, by simp, e⟩)
          · exact .inr (.inl g)
          · exact .inr (.inr ⟨y, by simp [hy], g⟩)
theorem mi2_ge {a b : T3} {key : Bs} (h : hasB (miR a b).2 key = true) : b.2.2 = false ∧ cmp b.2.1 key ≤ 0 := by
  unfold miR at h
  split at h
  · exact absurd h has_t30
  · simp only at h
    split at h
    · exact absurd h has_t30
    · rename_i k
      exact ⟨by simpa using k, has_ge.1 (has_me.1 h).2⟩
theorem wo_ne : ∀ {l : List T3} {r p : T3}, p ∈ woR r l → ¬ emR p = true
  | [], r, p, h => by
    unfold woR at h
    split at h
    · cases h
    · rename_i k; rw [List.mem_singleton.1 h]; exact k
  | x :: l, r, p, h => by
    unfold woR at h
    split at h
    · exact wo_ne h
    · rcases List.mem_append.1 h with h | h
      · split at h
        · cases h
        · rename_i k; rw [List.mem_singleton.1 h]; exact k
      · exact wo_ne h
theorem wo_nd : ∀ {l : List T3} {r : T3}, SepR l → ((woR r l).map fun d => d.1).Nodup
  | [], r, _ => by unfold woR; split <;> simp
  | x :: l, r, hs => by
    unfold woR
    split
    · exact wo_nd hs.tail
    · split
      · exact wo_nd hs.tail
      · rename_i k
        rw [List.singleton_append, List.map_cons, List.nodup_cons]
        refine ⟨fun h => ?_, wo_nd hs.tail⟩
        obtain ⟨p, hp, e⟩ := List.mem_map.1 h
        have h1 := mi_low (ne_has k) hs.head.2
        have h2 : inU (woR (miR r x).2 l) p.1 := ⟨p, hp, ne_has (wo_ne hp)⟩
        have h3 := mi2_ge ((wo_in hs.tail).1 h2).1
        rw [e] at h3
        exact hs.head.2 (emR_iff.2 ⟨h3.1, le_tr h3.2 h1⟩)
/-- Where messages' ranges begin and end. -/
def edg (r : List MD) : List Bs := [] :: r.flatMap fun m => [(saidR m).1, (saidR m).2.1]
theorem edg_len (r : List MD) : (edg r).length = 2 * r.length + 1 := by
  unfold edg
  rw [List.length_cons]
  congr 1
  induction r with
  | nil => rfl
  | cons m r ih => rw [List.flatMap_cons, List.length_append, ih]; simp only [List.length_cons, List.length_nil]; omega
theorem edg_mono {m : MD} {r : List MD} {x : Bs} (h : x ∈ edg r) : x ∈ edg (m :: r) := by
  unfold edg at *
  rcases List.mem_cons.1 h with h | h
  · exact List.mem_cons.2 (.inl h)
  · refine List.mem_cons.2 (.inr ?_)
    rw [List.flatMap_cons]; exact List.mem_append_right _ h
theorem edg_lo (m : MD) (r : List MD) : (saidR m).1 ∈ edg (m :: r) := by simp [edg]
theorem edg_hi (m : MD) (r : List MD) : (saidR m).2.1 ∈ edg (m :: r) := by simp [edg]
theorem sep_hi {c : List T3} {d : T3} (hs : SepR c) (hd : d ∈ c) (hf : Fin3 d) : ¬ inU c d.2.1 := by
  rintro ⟨y, hy, hk⟩
  obtain ⟨hn, hp⟩ := sepR_iff.1 hs
  have hk := hasB_iff.1 hk
  obtain ⟨s, t, rfl⟩ := List.append_of_mem hd
  obtain ⟨p1, p2, p3⟩ := List.pairwise_append.1 hp
  rcases List.mem_append.1 hy with hy | hy
  · have h1 := p3 y hy d (by simp)
    have h2 := hk.2.resolve_left (by rw [h1.1]; decide)
    have h3 := ne_has (hn d (by simp)).2
    have h4 := (hasB_iff.1 h3).2.resolve_left (by rw [show d.2.2 = false from hf]; decide)
    have h5 : cmp d.2.1 d.1 < 0 := lt_tr h2 (by have := h1.2; omega)
    have h6 : cmp d.2.1 d.2.1 < 0 := lt_tr h5 (by omega)
    rw [cmp_self] at h6
    omega
  · rcases List.mem_cons.1 hy with rfl | hy
    · have h2 := hk.2.resolve_left (by rw [show y.2.2 = false from hf]; decide)
      rw [cmp_self] at h2
      omega
    · have h1 := (List.pairwise_cons.1 p2).1 y hy
      have h2 := lt_tr h1.2 hk.1
      rw [cmp_self] at h2
      omega
theorem edge_top (l : List T3) {lo hi : Bs} (h : cmp lo hi < 0) : ∃ t, cmp lo t ≤ 0 ∧ cmp t hi < 0 ∧ ∀ x ∈ l, cmp x.2.1 hi < 0 → cmp x.2.1 t ≤ 0 := by
  induction l with
  | nil => exact ⟨lo, by rw [cmp_self]; omega, h, fun x hx => by cases hx⟩
  | cons y l ih =>
    obtain ⟨t, h1, h2, h3⟩ := ih
    by_cases g : cmp y.2.1 hi < 0 ∧ ¬ cmp y.2.1 t ≤ 0
    · have g2 := nle g.2
      refine ⟨y.2.1, le_tr h1 (by omega), g.1, fun x hx hh => ?_⟩
      rcases List.mem_cons.1 hx with rfl | hx
      · rw [cmp_self]; omega
      · exact le_tr (h3 x hx hh) (by omega)
    · refine ⟨t, h1, h2, fun x hx hh => ?_⟩
      rcases List.mem_cons.1 hx with rfl | hx
      · exact Classical.byContradiction fun k => g ⟨hh, k⟩
      · exact h3 x hx hh
theorem cv_hi {l c : List T3} (hc : IsCv l c) (hl : ∀ x ∈ l, Fin3 x) {d : T3} (hd : d ∈ c) : ∃ x ∈ l, d.2.1 = x.2.1 := by
  have hf := cv_fin hc hl d hd
  have hn := (sepR_iff.1 hc.1).1 d hd
  have h4 := (hasB_iff.1 (ne_has hn.2)).2.resolve_left (by rw [show d.2.2 = false from hf]; decide)
  obtain ⟨t, h1, h2, h3⟩ := edge_top l h4
  obtain ⟨x, hx, hk⟩ := (hc.2 t).1 ⟨d, hd, hasB_iff.2 ⟨h1, .inr h2⟩⟩
  have hk := hasB_iff.1 hk
  have hxf : x.2.2 = false := hl x hx
  have hk2 := hk.2.resolve_left (by rw [hxf]; decide)
  have g1 : ¬ cmp x.2.1 d.2.1 < 0 := fun g => by
    have := lt_tr hk2 (h3 x hx g)
    rw [cmp_self] at this
    omega
  have g2 : ¬ cmp d.2.1 x.2.1 < 0 := fun g => sep_hi hc.1 hd hf ((hc.2 _).2 ⟨x, hx, hasB_iff.2 ⟨le_tr hk.1 (by omega), .inr g⟩⟩)
  have := cmp_anti d.2.1 x.2.1
  exact ⟨x, hx, (cmp_eq _ _).1 (by omega)⟩
/-- What is gone begins at edges, each elsewhere. -/
structure GnL (r : List MD) (over gone : List T3) : Prop where
  fo : ∀ o ∈ over, Fin3 o
  nd : (gone.map fun d => d.1).Nodup
  ge : ∀ g ∈ gone, g.1 ∈ edg r
  oe : ∀ o ∈ over, o.2.1 ∈ edg r
theorem GnL.nil : GnL [] [] [] := ⟨fun o h => (by cases h), List.nodup_nil, fun o h => (by cases h), fun o h => (by cases h)⟩
theorem GnL.len {r : List MD} {over gone : List T3} (h : GnL r over gone) : gone.length ≤ 2 * r.length + 1 := by
  have := nodup_len h.nd (m := edg r) (fun x hx => by obtain ⟨g, hg, rfl⟩ := List.mem_map.1 hx; exact h.ge g hg)
  rw [List.length_map, edg_len] at this
  exact this
theorem GnL.skip {r : List MD} {over gone : List T3} {m : MD} (h : GnL r over gone) : GnL (m :: r) over gone := ⟨h.fo, h.nd, fun g hg => edg_mono (h.ge g hg), fun o ho => edg_mono (h.oe o ho)⟩
theorem GnL.put {r : List MD} {over gone c : List T3} {m : MD} (h : GnL r over gone) (hc : IsCv (over ++ [saidR m]) c) : GnL (m :: r) c gone := by
  have hf : ∀ x ∈ over ++ [saidR m], Fin3 x := fun x hx => by
    rcases List.mem_append.1 hx with hx | hx
    · exact h.fo x hx
    · rw [List.mem_singleton.1 hx]; exact said_fin m
  refine ⟨cv_fin hc hf, h.nd, fun g hg => edg_mono (h.ge g hg), fun o ho => ?_⟩
  obtain ⟨x, hx, e⟩ := cv_hi hc hf ho
  rw [e]
  rcases List.mem_append.1 hx with hx | hx
  · exact edg_mono (h.oe x hx)
  · rw [List.mem_singleton.1 hx]; exact edg_hi m r
theorem GnL.gone {r : List MD} {over gn c : List T3} {puts : List PD} {m : MD} (h : GnL r over gn) (hs : MnSt r over gn puts) (hc : IsCv (over ++ [saidR m]) c) : GnL (m :: r) c (gn ++ woR (saidR m) over) := by
  have hp := h.put hc
  refine ⟨hp.fo, ?_, fun g hg => ?_, hp.oe⟩
  · rw [List.map_append]
    refine List.nodup_append.2 ⟨h.nd, wo_nd hs.ov, fun x hx y hy e => ?_⟩
    obtain ⟨g, hg, rfl⟩ := List.mem_map.1 hx
    obtain ⟨p, hp', rfl⟩ := List.mem_map.1 hy
    have h1 : inU gn g.1 := ⟨g, hg, ne_has (hs.gf g hg).1.2⟩
    have h2 := (hs.gn g.1).1 h1
    have h3 : inU (woR (saidR m) over) p.1 := ⟨p, hp', ne_has (wo_ne hp')⟩
    have h4 := ((wo_in hs.ov).1 h3).2
    have e : g.1 = p.1 := e
    exact h4 ((hs.on _).2 (by rw [← e, h2]; simp))
  · rcases List.mem_append.1 hg with hg | hg
    · exact edg_mono (h.ge g hg)
    · rcases wo_lo hg with e | e | ⟨x, hx, e⟩
      · rw [e]; exact edg_lo m r
      · rw [e]; simp [edg]
      · rw [e]; exact edg_mono (h.oe x hx)
theorem qk_wo {k : Nat} : ∀ {l : List T3} {r : T3}, QK k r → (∀ x ∈ l, QK k x) → ∀ p ∈ woR r l, QK k p
  | [], r, hr, _, p, h => by
    unfold woR at h
    split at h
    · cases h
    · rw [List.mem_singleton.1 h]; exact hr
  | x :: l, r, hr, hl, p, h => by
    have hm := qk_mi hr (hl x (by simp))
    have hl2 : ∀ y ∈ l, QK k y := fun y hy => hl y (by simp [hy])
    unfold woR at h
    split at h
    · exact qk_wo hr hl2 p h
    · rcases List.mem_append.1 h with h | h
      · split at h
        · cases h
        · rw [List.mem_singleton.1 h]; exact hm.1
      · exact qk_wo hm.2 hl2 p h
end Go.Sx

