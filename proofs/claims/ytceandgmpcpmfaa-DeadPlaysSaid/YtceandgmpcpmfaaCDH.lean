/- Part of a proof: one Free, of a list that is lent. -/
import Derived.Test.YtceandgmpcpmfaaCDG
import Derived.Test.YtceandgmpcpmfaaCDE
namespace Go.Sx
open Go Go.Proofs
set_option maxRecDepth 10000
variable {w0 : World} {H : List Ck}
/-- What is lent, of which so many are written over. -/
def owF (l : List U64) (i : Nat) : List U64 := List.replicate i ⟨3⟩ ++ (l.drop i ++ [⟨77⟩])
theorem owF_len (l : List U64) {i : Nat} (h : i ≤ l.length) : (owF l i).length = l.length + 1 := by
  simp only [owF, List.length_append, List.length_replicate, List.length_drop, List.length_cons, List.length_nil]; omega
theorem owF_get {l : List U64} {i : Nat} {u : U64} (h : l[i]? = some u) : (owF l i)[i]? = some u := by
  have hi := (List.getElem?_eq_some_iff.1 h).1
  rw [owF, List.getElem?_append_right (by simp), List.length_replicate, Nat.sub_self, List.getElem?_append_left (by simp; omega), List.getElem?_drop]
  exact h
theorem owF_set {l : List U64} {i : Nat} (h : i < l.length) : (owF l i).set i ⟨3⟩ = owF l (i + 1) := by
  rw [owF, owF, List.set_append_right _ _ (by simp), List.length_replicate, Nat.sub_self, List.drop_eq_getElem_cons h, List.cons_append, List.set_cons_zero, List.replicate_succ', List.append_assoc]
  rfl
theorem owF_end {l : List U64} : (owF l l.length)[l.length]? = some ⟨77⟩ := by
  rw [owF, List.getElem?_append_right (by simp), List.length_replicate, Nat.sub_self, List.drop_length]
  rfl
theorem fam_two {β α : Type} [Cel α] [Row β α] {E : TypeId} {s t : β} : Ent (Row.ck E s :: Row.ck E t :: H) (fam E [s, t] :: H) := Ent.star Ent.refl
set_option maxHeartbeats 2000000 in
theorem frees_s {W d r pc qc c e lc : Nat} {pa qa a b la : Option Addr} {p q : List SIn} {v0 v1 v4 v5 : Value} {n : Int} {xs : List Lf} {l : List U64} (hl : RSl w0 H la lc l) (hll : l.length ≤ 17592186043904) (hx : xs.length ≤ 5864062014805)
    (hp : p.length + 2 ≤ 5864062014805) (hq : q.length + 2 ≤ 5864062014805) :
    FnS Try.prog w0 (.hb d 63 [.slice a xs.length c] :: ol 34 a c xs :: .hb r 73 [.slice b xs.length e] :: ol 34 b e xs :: .hb W 30 [v0, v1, .slice pa p.length pc, .slice qa q.length qc, v4, v5, .int .i64 n] :: ol 47 pa pc p :: ol 47 qa qc q :: H)
      24 #[.pointer (some ⟨W, 0, none⟩), .pointer (some ⟨d, 0, none⟩), .pointer (some ⟨r, 0, none⟩), .slice la l.length lc]
      (fun v H' => v = .bool true ∧ ∃ a' c' b' e' pa' pc' qa' qc' n' ps qs, List.map SIn.xs ps = List.map SIn.xs qs ∧ ps.length = 2 ∧ (∀ s ∈ ps, s.xs.length ≤ xs.length) ∧
        H' = .hb d 63 [.slice a' (keptV xs (ssN l)).length c'] :: ol 34 a' c' (keptV xs (ssN l)) :: .hb r 73 [.slice b' (keptV xs (ssN l)).length e'] :: ol 34 b' e' (keptV xs (ssN l)) ::
          .hb W 30 [v0, v1, .slice pa' (p ++ ps).length pc', .slice qa' (q ++ qs).length qc', v4, v5, .int .i64 n'] :: ol 47 pa' pc' (p ++ ps) :: ol 47 qa' qc' (q ++ qs) :: fam 3 ps :: fam 3 qs :: H) := by
  refine fns_enter Try.func24 rfl rfl rfl ?_
  refine s_kn (Kn.sl hl).tl.tl.tl.tl.tl.tl.tl fun l1 => ?_
  simp only [maxLen] at l1
  have hkl := keptV_len xs (ssN l)
  refine sx ?_
  refine s_bsl ([] : List U64) rfl rfl fun b15 => ?_
  refine sx ?_
  refine s_app (ys := l) ?_
  intro oa1 oc1
  refine sx ?_
  refine s_bsl [(⟨77⟩ : U64)] rfl rfl fun b18 => ?_
  refine sx ?_
  refine s_app ?_
  intro oa oc
  have eow : [] ++ l ++ [(⟨77⟩ : U64)] = owF l 0 := by simp [owF]
  have hol := owF_len l (Nat.zero_le _)
  rw [eow]
  refine s_knL (Kn.sl (a := oa) (c := oc) (xs := owF l 0) (by exact rsl)) fun l2 => ?_
  refine sx ?_
  refine s_entL (.hb d 63 [.slice a xs.length c] :: ol 34 a c xs :: ol 32 oa oc (owF l 0) :: .hb r 73 [.slice b xs.length e] :: ol 34 b e xs :: .hb W 30 [v0, v1, .slice pa p.length pc, .slice qa q.length qc, v4, v5, .int .i64 n] :: ol 47 pa pc p :: ol 47 qa qc q :: H) (by exact ent) ?_
  refine s_call rfl (dfree_s (xs := xs) (ss := l) (by
    have h1 := RSl.take (w0 := w0) (H := ol 32 oa oc (owF l 0) :: .hb r 73 [.slice b xs.length e] :: ol 34 b e xs :: .hb W 30 [v0, v1, .slice pa p.length pc, .slice qa q.length qc, v4, v5, .int .i64 n] :: ol 47 pa pc p :: ol 47 qa qc q :: H) (k := l.length) RSl.hd (by rw [hol]; omega)
    have h2 : (owF l 0).take l.length = l := by simp [owF]
    rwa [h2] at h1) hx) ?_
  rintro _ _ ⟨o, oc2, a2, c2, rfl, rfl⟩
  refine ⟨chk_seq, ?_⟩
  refine sx ?_
  have hS : ∀ i, i ≤ l.length → (Value.slice oa (owF l 0).length oc = .slice oa (owF l i).length oc) := fun i hi => by rw [hol, owF_len l hi]
  refine s_loop (fun i : Nat => [(0, .pointer (some ⟨W, 0, none⟩)), (1, .pointer (some ⟨d, 0, none⟩)), (2, .pointer (some ⟨r, 0, none⟩)), (3, .slice la l.length lc), (9, .slice oa (owF l i).length oc), (10, .slice o (freeV xs (ssN l)).length oc2), (11, .int .i64 i)]) (fun i => ol 32 oa oc (owF l i) :: ol 3 o oc2 (freeV xs (ssN l)) :: .hb d 63 [.slice a2 (keptV xs (ssN l)).length c2] :: ol 34 a2 c2 (keptV xs (ssN l)) :: .hb r 73 [.slice b xs.length e] :: ol 34 b e xs :: .hb W 30 [v0, v1, .slice pa p.length pc, .slice qa q.length qc, v4, v5, .int .i64 n] :: ol 47 pa pc p :: ol 47 qa qc q :: H) (fun i => i ≤ l.length) (fun i => l.length - i) 0 (Nat.zero_le _) ?_
  · intro i hi
    have hoi := owF_len l hi
    refine sx ?_
    refine s_if rfl (fun t1 => ?_) (fun t1 => ?_)
    · obtain ⟨u, hu⟩ := get_lt l i (by omega)
      have hou := owF_get hu
      have hlt := (List.getElem?_eq_some_iff.1 hu).1
      have hos := owF_len l (i := i + 1) (by omega)
      refine sx ?_; refine s_dr (.one true 0 (.one true 1 (.one true 2 (.one true 3 (.one true 4 (.one true 5 (.one true 6 (.one true 7 (.one true 8 .nil))))))))) mixed (by kernel_rfl) ?_; refine sx ?_
      refine s_set1g (y := (⟨3⟩ : U64)) rfl rfl (by exact at_) rfl (by omega) ?_
      rw [owF_set hlt]
      refine sx ?_
      refine s_rwQ (t := 9) (v' := .slice oa (owF l (i + 1)).length oc) rfl (by rw [hoi, hos]) ?_
      exact s_again (i + 1) (by omega) (by omega)
    · obtain rfl : i = l.length := by omega
      refine sx ?_
      refine s_entL (.hb d 63 [.slice a2 (keptV xs (ssN l)).length c2] :: ol 34 a2 c2 (keptV xs (ssN l)) :: ol 32 oa oc (owF l l.length) :: ol 3 o oc2 (freeV xs (ssN l)) :: .hb r 73 [.slice b xs.length e] :: ol 34 b e xs :: .hb W 30 [v0, v1, .slice pa p.length pc, .slice qa q.length qc, v4, v5, .int .i64 n] :: ol 47 pa pc p :: ol 47 qa qc q :: H) (by exact ent) ?_
      refine s_call rfl (dfree_s (xs := keptV xs (ssN l)) (ss := l) (by exact rsl) (by omega)) ?_
      rintro _ _ ⟨y, yc, a3, c3, rfl, rfl⟩
      rw [free_kept, kept_kept]
      refine ⟨chk_seq, ?_⟩
      refine sx ?_
      refine s_entL (.hb r 73 [.slice b xs.length e] :: ol 34 b e xs :: ol 3 y yc ([] : List Int) :: .hb d 63 [.slice a3 (keptV xs (ssN l)).length c3] :: ol 34 a3 c3 (keptV xs (ssN l)) :: ol 32 oa oc (owF l l.length) :: ol 3 o oc2 (freeV xs (ssN l)) :: .hb W 30 [v0, v1, .slice pa p.length pc, .slice qa q.length qc, v4, v5, .int .i64 n] :: ol 47 pa pc p :: ol 47 qa qc q :: H) (by exact ent) ?_
      refine s_call rfl (rfree_s (xs := xs) (ss := l) (by exact rsl) hx) ?_
      rintro _ _ ⟨z, zc, b2, e2', rfl, rfl⟩
      refine ⟨chk_seq, ?_⟩
      refine s_entL (.hb W 30 [v0, v1, .slice pa p.length pc, .slice qa q.length qc, v4, v5, .int .i64 n] :: ol 47 pa pc p :: ol 47 qa qc q :: ol 3 o oc2 (freeV xs (ssN l)) :: ol 3 z zc (freeV xs (ssN l)) :: ol 3 y yc ([] : List Int) :: .hb d 63 [.slice a3 (keptV xs (ssN l)).length c3] :: ol 34 a3 c3 (keptV xs (ssN l)) :: .hb r 73 [.slice b2 (keptV xs (ssN l)).length e2'] :: ol 34 b2 e2' (keptV xs (ssN l)) :: ol 32 oa oc (owF l l.length) :: H) (by exact ent) ?_
      refine s_call rfl (pages_s (p := p) (q := q) (xs := freeV xs (ssN l)) (by exact rsl) (by exact rsl) (by omega) (by omega)) ?_
      rintro _ _ ⟨rfl, pa2, pc2, qa2, qc2, n2, rfl⟩
      refine ⟨chk_seq, ?_⟩
      refine sx ?_
      refine s_call rfl (pages_s (p := (p ++ [(⟨o, oc2, freeV xs (ssN l)⟩ : SIn)])) (q := (q ++ [(⟨z, zc, freeV xs (ssN l)⟩ : SIn)])) (a := y) (c := yc) (b := none) (e := 0) (xs := ([] : List Int)) (by exact rsl) RSl.nil (by simp; omega) (by simp; omega)) ?_
      rintro _ _ ⟨rfl, pa3, pc3, qa3, qc3, n3, rfl⟩
      refine ⟨chk_seq, ?_⟩
      have hoe := owF_end (l := l)
      refine sx ?_
      have e1 : (p ++ [(⟨o, oc2, freeV xs (ssN l)⟩ : SIn)]) ++ [(⟨y, yc, []⟩ : SIn)] = p ++ [⟨o, oc2, freeV xs (ssN l)⟩, ⟨y, yc, []⟩] := by simp
      have e2 : (q ++ [(⟨z, zc, freeV xs (ssN l)⟩ : SIn)]) ++ [(⟨none, 0, []⟩ : SIn)] = q ++ [⟨z, zc, freeV xs (ssN l)⟩, ⟨none, 0, []⟩] := by simp
      rw [e1, e2]
      have hfl := freeV_len xs (ssN l)
      have hrw : ∀ s ∈ [(⟨o, oc2, freeV xs (ssN l)⟩ : SIn), ⟨y, yc, []⟩], s.xs.length ≤ xs.length := by
        intro s hs
        simp only [List.mem_cons, List.not_mem_nil, or_false] at hs
        rcases hs with rfl | rfl
        · exact hfl
        · exact Nat.zero_le _
      refine s_ret1 rfl rfl ⟨rfl, a3, c3, b2, e2', pa3, pc3, qa3, qc3, n3, [⟨o, oc2, freeV xs (ssN l)⟩, ⟨y, yc, []⟩], [⟨z, zc, freeV xs (ssN l)⟩, ⟨none, 0, []⟩], rfl, rfl, hrw, rfl⟩ (he := ?_)
      refine Ent.cons (by exact rm) ?_
      refine Ent.cons (by exact rm) ?_
      refine Ent.cons (by exact rm) ?_
      refine Ent.cons (by exact rm) ?_
      refine Ent.head (Ent.head (Ent.head ?_))
      refine Ent.trans (H' := ol 3 o oc2 (freeV xs (ssN l)) :: ol 3 y yc ([] : List Int) :: ol 3 z zc (freeV xs (ssN l)) :: ol 3 none 0 ([] : List Int) :: H) (Ent.cons (by exact rm) (Ent.cons (by exact rm) (Ent.cons (by exact rm) (Ent.addNil (by exact ent))))) ?_
      exact (fam_two (s := (⟨o, oc2, freeV xs (ssN l)⟩ : SIn)) (t := ⟨y, yc, []⟩)).trans (Ent.head (fam_two (s := (⟨z, zc, freeV xs (ssN l)⟩ : SIn)) (t := ⟨none, 0, []⟩)))
end Go.Sx
