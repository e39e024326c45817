/- Part of a proof: several parts of a walk, one behind the other. -/
import Derived.Test.YtpnhoafmlhlfgaaGreatCMDj
import Derived.Test.YtpnhoafmlhlfgaaGreatCML
import Derived.Test.YtpnhoafmlhlfgaaGreatCMC
import Derived.Test.YtpnhoafmlhlfgaaGreatCMM
namespace Go.Sx
open Go Go.Proofs
set_option maxRecDepth 10000
variable {w0 : World} {H : List Ck}
theorem stars_append {β : Type} {f : β → List Ck} {F G : List β} {H : List Ck} : Ent (stars f (F ++ G) :: H) (stars f F :: stars f G :: H) := by
  unfold stars
  rw [List.flatMap_append]
  exact Ent.trans st_app (Ent.star Ent.refl)
/-- A telling of Of. -/
structure OfD where
  b : Nat
  a : Option Addr
  c : Nat
  out : List KV
def OfD.l (d : OfD) : List Pp := d.out.map KV.p
/-! ### What a map says -/
theorem getL_map : ∀ (l : List KV) (k : Bs), getL (l.map KV.p) k = getE l k
  | [], _ => rfl
  | e :: l, k => by
    rw [List.map_cons, getL_cons, getE_cons, getL_map l k]
    rfl
theorem map_says {es s out : List KV} (hM : Mrg es s) (ho : out.map KV.p = (lastsE s).map KV.p) : RiL (out.map KV.p) ∧ ∀ k, getL (out.map KV.p) k = getE es k := by
  obtain ⟨h1, h2⟩ := lasts_is hM.up
  have hri : RiL (out.map KV.p) := by
    rw [ho]
    unfold RiL
    rw [List.pairwise_map]
    exact h1
  refine ⟨hri, fun k => ?_⟩
  have hst : getE es k = getE s k := by
    unfold getE
    rw [hM.st.eq k]
  rw [hst]
  have hiff : ∀ v, getL (out.map KV.p) k = some v ↔ getE s k = some v := by
    intro v
    rw [← h2]
    constructor
    · intro g
      have := getL_mem g
      rw [ho] at this
      obtain ⟨e, he, hp⟩ := List.mem_map.1 this
      exact ⟨e, he, congrArg Prod.fst hp, congrArg Prod.snd hp⟩
    · rintro ⟨e, he, rfl, rfl⟩
      have : e.p ∈ out.map KV.p := by rw [ho]; exact List.mem_map_of_mem he
      exact getL_at hri this
  cases g : getE s k with
  | some v => exact (hiff v).2 g
  | none =>
    cases g2 : getL (out.map KV.p) k with
    | none => rfl
    | some v => rw [(hiff v).1 g2] at g; cases g
/-- Each telling is the map of a list. -/
def Maps (fs : List OfD) (ls : List SE) : Prop := fs.length = ls.length ∧ ∀ (i : Nat) (d : OfD) (s : SE), fs[i]? = some d → ls[i]? = some s → RiL d.l ∧ (∀ k, getL d.l k = getE s.xs k) ∧ SmL d.l ∧ d.l.length ≤ s.xs.length
theorem Maps.nil : Maps [] [] := ⟨rfl, fun i d s h _ => by simp at h⟩
theorem Maps.snoc {fs : List OfD} {ls : List SE} {d : OfD} {s : SE} (h : Maps fs ls) (h1 : RiL d.l) (h2 : ∀ k, getL d.l k = getE s.xs k) (h3 : SmL d.l) (h4 : d.l.length ≤ s.xs.length) : Maps (fs ++ [d]) (ls ++ [s]) := by
  refine ⟨by simp [h.1], fun i d' s' hd hs => ?_⟩
  rcases Nat.lt_or_ge i fs.length with g | g
  · rw [List.getElem?_append_left g] at hd
    rw [List.getElem?_append_left (by rw [← h.1]; exact g)] at hs
    exact h.2 i d' s' hd hs
  · rw [List.getElem?_append_right g] at hd
    rw [List.getElem?_append_right (by rw [← h.1]; exact g)] at hs
    have hi := (List.getElem?_eq_some_iff.1 hd).1
    simp only [List.length_cons, List.length_nil] at hi
    have e1 : i - fs.length = 0 := by omega
    rw [e1] at hd
    rw [← h.1, e1] at hs
    cases hd
    cases hs
    exact ⟨h1, h2, h3, h4⟩
theorem Maps.ri {fs : List OfD} {ls : List SE} (h : Maps fs ls) : ∀ l ∈ fs.map OfD.l, RiL l := by
  intro l hl
  obtain ⟨d, hd, rfl⟩ := List.mem_map.1 hl
  obtain ⟨i, hi⟩ := List.getElem?_of_mem hd
  obtain ⟨s, hs⟩ := get_lt ls i (by have := (List.getElem?_eq_some_iff.1 hi).1; rw [← h.1]; exact this)
  exact (h.2 i d s hi hs).1
theorem Maps.fst : ∀ {fs : List OfD} {ls : List SE}, Maps fs ls → ∀ k, fstL (fs.map OfD.l) k = fstE ls k
  | [], [], _, _ => rfl
  | [], _ :: _, h, _ => by have := h.1; simp at this
  | _ :: _, [], h, _ => by have := h.1; simp at this
  | d :: fs, s :: ls, h, k => by
    have h0 := h.2 0 d s rfl rfl
    have ih := Maps.fst (fs := fs) (ls := ls) ⟨by have := h.1; simpa using this, fun i d' s' hd hs => h.2 (i + 1) d' s' (by simpa using hd) (by simpa using hs)⟩ k
    simp only [List.map_cons, fstL, fstE, h0.2.1, ih] <;> cases getE s.xs k <;> rfl
end Go.Sx
namespace Go.Sx
open Go Go.Proofs
set_option maxRecDepth 10000
variable {w0 : World} {H : List Ck}
@[reducible] def wnL (b2 b3 : Nat) (v : Value) (r : Rg) : List Ck := [.hb b2 40 [v], .hb b3 57 r.cells, oR r]
set_option maxHeartbeats 4000000 in
theorem gwithin_s {v : Value} (hv : v.oneCell' = true) {r : Rg} (hr : RRg w0 H r) (h1 : r.lo.length ≤ 140737488355328) (h2 : r.hi.length ≤ 140737488355328) :
    FnS Tryz.prog w0 H 21 #[v, .agg r.cells.toArray] (fun v' H' => ∃ b2 b3 q, v' = .func (.func 48) #[] #[.pointer (some ⟨b3, 0, none⟩), .pointer (some ⟨b2, 0, none⟩)] ∧ (q : Rg).d = r.d ∧ H' = wnL b2 b3 v q ++ H) := by
  have hlo := hr.lo
  have hhi := hr.hi
  obtain ⟨la, lc, lo, ha, hc, hi, all⟩ := r
  refine fns_enter Tryz.func21 rfl rfl rfl ?_
  refine sx ?_
  refine s_box1 rfl hv fun b2 => ?_
  refine sx ?_
  refine s_boxA rfl fun b3 => ?_
  refine sx ?_
  refine s_drU (.hb b3 57 (Rg.cells ⟨la, lc, lo, ha, hc, hi, all⟩) :: H) (.one true 0 (.one true 1 (.one true 3 (.one true 4 (.one false 2 (.one true 6 (.one false 5 .nil))))))) (.one false 7 (.one true 8 (.one false 9 .nil))) [7, 9] #[true, true, true, true, true, true, true, false, false, false] mixed (by kernel_rfl) ?_
  refine sx ?_
  refine s_call rfl (copied_s (xs := lo) (by exact rby) h1) ?_
  rintro _ _ ⟨a1, rfl, rfl⟩
  refine ⟨chk_held (by exact ent), ?_⟩
  refine sx ?_
  refine s_call rfl (copied_s (xs := hi) (by exact rby) h2) ?_
  rintro _ _ ⟨a2, rfl, rfl⟩
  refine ⟨chk_held (by exact ent), ?_⟩
  refine sx ?_
  refine s_bar ?_
  refine sx ?_
  refine s_ret1 rfl rfl ⟨b2, b3, ⟨a1, lo.length, lo, a2, hi.length, hi, all⟩, rfl, rfl, rfl⟩ ?_
  refine Ent.cons (by exact rm) (Ent.cons (by exact rm) ?_)
  exact Ent.oR (by exact rm) (by exact rm) (by exact ent)
end Go.Sx

