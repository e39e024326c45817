/- Part of a proof: lists of tellings; what maps of lists say; in plain words and as pieces. -/
import Derived.Test.YtpnhoafmlhlfgaaCMEj
import Derived.Test.YtpnhoafmlhlfgaaCMO
import Derived.Test.YtpnhoafmlhlfgaaCML
namespace Go.Sx
open Go Go.Proofs
set_option maxRecDepth 10000
variable {w0 : World} {H : List Ck}
theorem stars_append {β : Type} {f : β → List Ck} {F G : List β} {H : List Ck} : Ent (stars f (F ++ G) :: H) (stars f F :: stars f G :: H) := by
  unfold stars
  rw [List.flatMap_append]
  exact Ent.trans st_app (Ent.star Ent.refl)
/-- A telling of Of. -/
structure OfD where
  b : Nat
  a : Option Addr
  c : Nat
  out : List KV
@[reducible] def OfD.fu (d : OfD) : Fu := ⟨some (27, [.pointer (some ⟨d.b, 0, none⟩)])⟩
@[reducible] def ofP (d : OfD) : List Ck := [ofG d.b d.a d.c d.out]
def OfD.l (d : OfD) : List Pp := d.out.map KV.p
theorem ofd_tv {d : OfD} (h : SmL d.l) : TvC Try.prog w0 (ofG d.b d.a d.c d.out) d.fu.val d.l := ⟨27, [.pointer (some ⟨d.b, 0, none⟩)], rfl, inferInstance, of_tell h⟩
theorem ofd_nth {fs : List OfD} {i : Nat} {d : OfD} (hd : fs[i]? = some d) (h : SmL d.l) : TvC Try.prog w0 (stars ofP fs) d.fu.val d.l :=
  (ofd_tv h).frame ((fs.eraseIdx i).flatMap ofP) (fun _ => stars_get hd) (fun H => by
    have h := stars_put (f := ofP) (s := d) (H := H) (List.getElem?_eq_some_iff.1 hd).1
    rw [set_same hd] at h
    exact h)
theorem ofd_union {b c : Nat} {a : Option Addr} {fs : List OfD} (hn : fs.length ≤ 549755813888) (hs : ∀ d ∈ fs, SmL d.l ∧ d.l.length ≤ 549755813888) :
    TvC Try.prog w0 (uG b a c (fs.map OfD.fu) (stars ofP fs)) (.func (.func 33) #[] #[.pointer (some ⟨b, 0, none⟩)]) (unionL (fs.map OfD.l)) := by
  refine ⟨33, [.pointer (some ⟨b, 0, none⟩)], rfl, inferInstance, union_tell (by simp) (by simpa using hn) ?_⟩
  intro i f l hf hl
  rw [List.getElem?_map] at hf hl
  rcases hd : fs[i]? with _ | d
  · rw [hd] at hf; cases hf
  · rw [hd] at hf hl
    cases hf
    cases hl
    obtain ⟨h1, h2⟩ := hs d (List.mem_of_getElem? hd)
    exact ⟨h2, h1, true, fun _ => stars ofP fs, stars ofP fs, .inr (ofd_nth hd h1)⟩
/-! ### What a map says -/
theorem getL_map : ∀ (l : List KV) (k : Bs), getL (l.map KV.p) k = getE l k
  | [], _ => rfl
  | e :: l, k => by
    rw [List.map_cons, getL_cons, getE_cons, getL_map l k]
    rfl
theorem map_says {es s out : List KV} (hM : Mrg es s) (ho : out.map KV.p = (lastsE s).map KV.p) : RiL (out.map KV.p) ∧ ∀ k, getL (out.map KV.p) k = getE es k := by
  obtain ⟨h1, h2⟩ := lasts_is hM.up
  have hri : RiL (out.map KV.p) := by
    rw [ho]
    unfold RiL
    rw [List.pairwise_map]
    exact h1
  refine ⟨hri, fun k => ?_⟩
  have hst : getE es k = getE s k := by
    unfold getE
    rw [hM.st.eq k]
  rw [hst]
  have hiff : ∀ v, getL (out.map KV.p) k = some v ↔ getE s k = some v := by
    intro v
    rw [← h2]
    constructor
    · intro g
      have := getL_mem g
      rw [ho] at this
      obtain ⟨e, he, hp⟩ := List.mem_map.1 this
      exact ⟨e, he, congrArg Prod.fst hp, congrArg Prod.snd hp⟩
    · rintro ⟨e, he, rfl, rfl⟩
      have : e.p ∈ out.map KV.p := by rw [ho]; exact List.mem_map_of_mem he
      exact getL_at hri this
  cases g : getE s k with
  | some v => exact (hiff v).2 g
  | none =>
    cases g2 : getL (out.map KV.p) k with
    | none => rfl
    | some v => rw [(hiff v).1 g2] at g; cases g
/-- Each telling is the map of a list. -/
def Maps (fs : List OfD) (ls : List SE) : Prop := fs.length = ls.length ∧ ∀ (i : Nat) (d : OfD) (s : SE), fs[i]? = some d → ls[i]? = some s → RiL d.l ∧ (∀ k, getL d.l k = getE s.xs k) ∧ SmL d.l ∧ d.l.length ≤ s.xs.length
theorem Maps.nil : Maps [] [] := ⟨rfl, fun i d s h _ => by simp at h⟩
theorem Maps.snoc {fs : List OfD} {ls : List SE} {d : OfD} {s : SE} (h : Maps fs ls) (h1 : RiL d.l) (h2 : ∀ k, getL d.l k = getE s.xs k) (h3 : SmL d.l) (h4 : d.l.length ≤ s.xs.length) : Maps (fs ++ [d]) (ls ++ [s]) := by
  refine ⟨by simp [h.1], fun i d' s' hd hs => ?_⟩
  rcases Nat.lt_or_ge i fs.length with g | g
  · rw [List.getElem?_append_left g] at hd
    rw [List.getElem?_append_left (by rw [← h.1]; exact g)] at hs
    exact h.2 i d' s' hd hs
  · rw [List.getElem?_append_right g] at hd
    rw [List.getElem?_append_right (by rw [← h.1]; exact g)] at hs
    have hi := (List.getElem?_eq_some_iff.1 hd).1
    simp only [List.length_cons, List.length_nil] at hi
    have e1 : i - fs.length = 0 := by omega
    rw [e1] at hd
    rw [← h.1, e1] at hs
    cases hd
    cases hs
    exact ⟨h1, h2, h3, h4⟩
theorem Maps.ri {fs : List OfD} {ls : List SE} (h : Maps fs ls) : ∀ l ∈ fs.map OfD.l, RiL l := by
  intro l hl
  obtain ⟨d, hd, rfl⟩ := List.mem_map.1 hl
  obtain ⟨i, hi⟩ := List.getElem?_of_mem hd
  obtain ⟨s, hs⟩ := get_lt ls i (by have := (List.getElem?_eq_some_iff.1 hi).1; rw [← h.1]; exact this)
  exact (h.2 i d s hi hs).1
theorem Maps.fst : ∀ {fs : List OfD} {ls : List SE}, Maps fs ls → ∀ k, fstL (fs.map OfD.l) k = fstE ls k
  | [], [], _, _ => rfl
  | [], _ :: _, h, _ => by have := h.1; simp at this
  | _ :: _, [], h, _ => by have := h.1; simp at this
  | d :: fs, s :: ls, h, k => by
    have h0 := h.2 0 d s rfl rfl
    have ih := Maps.fst (fs := fs) (ls := ls) ⟨by have := h.1; simpa using this, fun i d' s' hd hs => h.2 (i + 1) d' s' (by simpa using hd) (by simpa using hs)⟩ k
    simp only [List.map_cons, fstL, fstE, h0.2.1, ih]
    cases getE s.xs k <;> rfl
end Go.Sx
