/- The second layer, part six: lists of pieces; entries of one's own. -/
import Derived.Test.YtbkaabjjmoaijaaSyE
import Derived.Test.YtbkaabjjmoaijaaSxK
namespace Go.Sx
open Go

theorem mem_perm {c : Ck} {L : List Ck} (h : c ∈ L) : ∃ R, L.Perm (c :: R) := by
  obtain ⟨s, t, rfl⟩ := List.append_of_mem h
  exact ⟨s ++ t, List.perm_middle⟩
theorem Ent.mem {c : Ck} {L H : List Ck} (h : c ∈ L) : Ent (L ++ H) [c] := by
  obtain ⟨R, hp⟩ := mem_perm h
  exact (Ent.app (Ent.perm hp)).trans (Ent.head (Ent.nil))
theorem Ent.mem' {c : Ck} {L H : List Ck} (h : c ∈ L) : Ent (Ck.star L :: H) [c] := Ent.open (Ent.mem h)
/-- Slices of one's own whose blocks are apart are pieces side by side. -/
theorem satS_dis {w : World} {E sz : Nat} : ∀ (L : List (Option Addr × Nat × Nat × List Value)) (S : Nat → Prop), (∀ p, p ∈ L → Own w 0 E sz p.1 p.2.1 p.2.2.1 p.2.2.2 ∧ ∀ i, blk p.1 = some i → S i) → Dis (L.map fun p => blk p.1) →
    SatS (L.map fun p => .own E sz p.1 p.2.1 p.2.2.1 p.2.2.2) w S
  | [], _, _, _ => trivial
  | p :: L, S, h, hd => by
    have hp := h p (by simp)
    simp only [List.map_cons] at hd
    refine ⟨fun i => blk p.1 = some i, fun i hi => hp.2 i hi, ⟨hp.1, fun ad e => by rw [e]; rfl⟩, satS_dis L _ (fun q hq => ⟨(h q (by simp [hq])).1, fun i hi => ⟨(h q (by simp [hq])).2 i hi, fun hj => ?_⟩⟩) hd.tail⟩
    exact hd.head hj (List.mem_map.2 ⟨q, hq, hi⟩)
section
variable (T U : TypeId)
/-- The pieces of entries' keys and values. -/
def oKV (es : List KV) : List Ck := es.flatMap fun e => [ol U e.ka e.kc e.k, ol U e.va e.vc e.v]
/-- A list of entries of one's own, with their keys and values. -/
def oE (a : Option Addr) (c : Nat) (es : List KV) : Ck := .star (ol T a c es :: oKV U es)
variable {T U}
theorem oKV_app (es fs : List KV) : oKV U (es ++ fs) = oKV U es ++ oKV U fs := by simp [oKV]
theorem oKV_one (e : KV) : oKV U [e] = [ol U e.ka e.kc e.k, ol U e.va e.vc e.v] := rfl
theorem oKV_key {es : List KV} {e : KV} (h : e ∈ es) : ol U e.ka e.kc e.k ∈ oKV U es := List.mem_flatMap.2 ⟨e, h, by simp⟩
theorem oKV_val {es : List KV} {e : KV} (h : e ∈ es) : ol U e.va e.vc e.v ∈ oKV U es := List.mem_flatMap.2 ⟨e, h, by simp⟩
/-- One entry more. -/
theorem Ent.kv1 {es : List KV} {e : KV} {H R1 R2 R3 H' : List Ck} (h1 : Rm (.star (oKV U es)) H R1) (h2 : Rm (ol U e.ka e.kc e.k) R1 R2) (h3 : Rm (ol U e.va e.vc e.v) R2 R3) (h : Ent R3 H') : Ent H (.star (oKV U (es ++ [e])) :: H') := by
  refine ((Ent.perm h1.out).trans (Ent.head ((Ent.perm h2.out).trans (Ent.head ((Ent.perm h3.out).trans (Ent.head h)))))).trans ?_
  rw [oKV_app, oKV_one]
  exact Ent.more (K := [ol U e.ka e.kc e.k, ol U e.va e.vc e.v])
theorem Ent.kv0 {H H' : List Ck} (h : Ent H H') : Ent H (.star (oKV U []) :: H') := h.trans Ent.star0
theorem Ent.oe {a : Option Addr} {c : Nat} {es : List KV} {H R1 R2 H' : List Ck} (h1 : Rm (ol T a c es) H R1) (h2 : Rm (.star (oKV U es)) R1 R2) (h : Ent R2 H') : Ent H (Sx.oE T U a c es :: H') := by
  refine ((Ent.perm h1.out).trans (Ent.head ((Ent.perm h2.out).trans (Ent.head h)))).trans ?_
  refine (Ent.head (Ent.open Ent.refl)).trans ?_
  exact Ent.star Ent.refl
variable {w0 : World} {H : List Ck} {a : Option Addr} {c : Nat}
theorem REn.oE {es : List KV} : REn w0 (Sx.oE T U a c es :: H) a c es := by
  refine REn.mk (RSl.ent RSl.hd (Ent.mem' (c := ol T a c es) (by simp))) fun e he => ⟨RBy.ent RBy.hd (Ent.mem' (c := ol U e.ka e.kc e.k) (by simp [oKV_key he])), RBy.ent RBy.hd (Ent.mem' (c := ol U e.va e.vc e.v) (by simp [oKV_val he]))⟩
/-- The same of a spine and the pieces, beside one another. -/
theorem REn.sp {es : List KV} (h1 : RSl w0 H a c es) (h2 : ∀ p, p ∈ oKV U es → Ent H [p]) : REn w0 H a c es :=
  REn.mk h1 fun e he => ⟨RBy.ent RBy.hd (h2 (ol U e.ka e.kc e.k) (oKV_key he)), RBy.ent RBy.hd (h2 (ol U e.va e.vc e.v) (oKV_val he))⟩
/-- The elder words for the same thing. -/
theorem OwE.sat {w w' : World} {es : List KV} (ho : OwE w' w.heap.size T U a c es) (h : Sat w0 H w) (he : Ex w w') : Sat w0 (Sx.oE T U a c es :: H) w' := by
  refine h.new he (fun i => w.heap.size ≤ i ∧ i < w'.heap.size) (fun i hi => hi) ?_
  have hdj := ho.dj
  refine ⟨fun i => blk a = some i, fun i hi => ho.bla hi, ⟨by show Own _ _ _ _ _ _ _ _; rw [flat_kv]; exact ho.sl.mono (Nat.zero_le _), fun ad e => by rw [e]; rfl⟩, ?_⟩
  have key := satS_dis (w := w') (E := U) (sz := 1) (es.flatMap fun e => [(e.ka, e.k.length, e.kc, flat e.k), (e.va, e.v.length, e.vc, flat e.v)]) (fun b => (w.heap.size ≤ b ∧ b < w'.heap.size) ∧ ¬ blk a = some b) ?_ ?_
  · have e : (es.flatMap fun e => [(e.ka, e.k.length, e.kc, flat e.k), (e.va, e.v.length, e.vc, flat e.v)]).map (fun p => Ck.own U 1 p.1 p.2.1 p.2.2.1 p.2.2.2) = oKV U es := by
      simp [oKV, List.map_flatMap]
      rfl
    rw [e] at key
    exact key
  · intro p hp
    obtain ⟨e, he', hp⟩ := List.mem_flatMap.1 hp
    have hel := ho.el e he'
    simp only [List.mem_cons, List.not_mem_nil, or_false] at hp
    have hmk : some 0 = some 0 := rfl
    rcases hp with rfl | rfl
    · exact ⟨by show Own _ _ _ _ _ _ _ _; simp only [flat_bs]; exact Own.mono hel.1 (Nat.zero_le _), fun i hi => ⟨OwB.bl hel.1 hi, fun hj => hdj.head hj (List.mem_flatMap.2 ⟨e, he', by simp [← hi]⟩)⟩⟩
    · exact ⟨by show Own _ _ _ _ _ _ _ _; simp only [flat_bs]; exact Own.mono hel.2 (Nat.zero_le _), fun i hi => ⟨OwB.bl hel.2 hi, fun hj => hdj.head hj (List.mem_flatMap.2 ⟨e, he', by simp [← hi]⟩)⟩⟩
  · have e : (es.flatMap fun e => [(e.ka, e.k.length, e.kc, flat e.k), (e.va, e.v.length, e.vc, flat e.v)]).map (fun p => blk p.1) = bks es := by
      simp [bks, List.map_flatMap]
    rw [e]
    exact hdj.tail
theorem OwB.sat {w w' : World} {xs : Bs} (ho : OwB w' w.heap.size U a c xs) (h : Sat w0 H w) (he : Ex w w') : Sat w0 (ol U a c xs :: H) w' := by
  have := Own.sat (H := H) (w0 := w0) ho h he
  rw [← flat_bs] at this
  exact this
end
end Go.Sx
